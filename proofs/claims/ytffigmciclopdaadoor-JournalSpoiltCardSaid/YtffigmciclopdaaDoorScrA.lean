/- The walks of layer 26's reader: take, number; and big. -/
import Derived.Test.YtffigmciclopdaaDoorScrM
import Derived.Laws.CopyOwn
import Derived.Deep.RegionHeldLaw
import Derived.Deep.RegionLaw
import Derived.Deep.OwnRows
import Derived.LoopTactic
import Derived.Deep.DrawnRows
import Derived.Deep.AppendLies
namespace Go.Proofs.YtffigmciclopdaaDoor
open Go Go.RowKit

/-- A row that was made and then filled at its head. -/
theorem splice_made (n : Nat) (rs : List UInt8) : splice (List.replicate n (Value.int .u8 0)) 0 (bcells (rs.take n)) = bcells (takeP n rs) := by
  unfold splice takeP bcells
  simp only [List.take_zero, List.nil_append, List.length_map, List.map_append, Nat.zero_add, List.drop_replicate, List.map_replicate]
  congr 2
  simp
  omega

theorem u8_size : (Tryd.prog.info? 5).map (·.size) = some 1 := by kernel_rfl
theorem size_reader (w : World) : (sizeOf (Tryd.prog.elem 80)).run Tryd.prog w = .ok 1 w := by kernel_rfl
theorem take_len (n : Nat) (rs : List UInt8) : (bcells (rs.take n)).length = Nat.min rs.length n := by simp [bcells, Nat.min_comm]
theorem take_fit (n : Nat) (rs : List UInt8) : 0 + (bcells (rs.take n)).length ≤ (List.replicate n (Value.int .u8 0)).length := by simp [bcells]; omega
theorem Bts.copy_src {w : World} {B : Nat} {A : Option Addr} {m cap : Nat} {rs : List UInt8} (h : Bts w B 5 (.slice A m cap) rs) (n : Nat) (D : Option Addr) (g : Nat) (hD : D = some ⟨g, 0, none⟩) :
    0 < (bcells (rs.take n)).length → D = some ⟨g, 0, none⟩ ∧ ∃ ad, A = some ad ∧ ∀ j v, (bcells (rs.take n))[j]? = some v → w.cell? (ad.add j) = some v := by
  intro hp
  obtain ⟨e, hs⟩ := h.src_at
  cases A with
  | none => have h0 := hs.2.1 rfl; simp [bcells] at hp; omega
  | some ad =>
    refine ⟨hD, ad, rfl, fun j v hj => hs.2.2 ad rfl j v ?_⟩
    simp only [bcells, List.map_take] at hj ⊢
    rw [List.getElem?_take] at hj
    split at hj
    · exact hj
    · cases hj

theorem Only.set1 (w : World) (g i : Nat) (u : Value) : Only (fun k => k = g) w (w.setCell ⟨g, i, none⟩ u) := Only.setCell (S := fun k => k = g) (Only.refl _ _) (p := ⟨g, i, none⟩) (.inl rfl) _
theorem KeepB.of_blk {B U g t : Nat} {w w' : World} {cs : Array Value} (hb : Blk w g t cs) (ht : t ≠ U) (hg : B ≤ g) (ho : Only (fun k => k = g) w w') : KeepB B U w w' :=
  KeepB.of_only ho fun k _ e => ⟨by omega, fun c fr h => by
    subst e
    exact hb.ne_ h ht rfl⟩

/-- What take has done: the bytes lie in a new row; the reader has what is left. -/
structure TakePost (w w' : World) (B g : Nat) (n : Nat) (rs : List UInt8) (v : Value) : Prop where
  own : w'.ownsRow w.heap.size 5 1 v n (bcells (takeP n rs))
  box : ∃ V', Blk w' g 80 #[V'] ∧ Bts w' B 5 V' (rs.drop n)
  only : Only (fun k => k = g) w w'

set_option maxHeartbeats 1000000 in
theorem take_any (B g : Nat) (V : Value) (rs : List UInt8) (n : Nat) (w : World) (hb : Blk w g 80 #[V]) (hv : Bts w B 5 V rs) (hg : B ≤ g) (hn : n ≤ 1000000) :
    Calls Tryd.prog 53 #[.pointer (some ⟨g, 0, none⟩), .int .i64 n] w fun e w' => ∃ v, e = .returned v ∧ TakePost w w' B g n rs v := by
  obtain ⟨A, cap, rfl⟩ := hv.form
  have hmk := run_make_row' (P := Tryd.prog) 22 5 (.int .u8 0) 1 Tryd.underlying22 u8_info rfl .i64 .i64 n (by omega) (by omega) w
  obtain ⟨w1, hw1⟩ : ∃ w1, w.alloc (.cells (madeCells #[.int .u8 0] n) 5) = w1 := ⟨_, rfl⟩
  have hb1 : Blk w1 g 80 #[.slice A rs.length cap] := hw1 ▸ hb.alloc _
  have hv1 : Bts w1 B 5 (.slice A rs.length cap) rs := hw1 ▸ hv.alloc _
  have hn1 : Blk w1 w.heap.size 5 (List.replicate n (Value.int .u8 0)).toArray := by
    rw [← hw1, ← toList_madeCells_one]; exact Blk.new _ _ _
  have hbe : Below w.heap.size w w1 := hw1 ▸ (Below.refl _ _).alloc (Nat.le_refl _) _
  rw [hw1] at hmk
  have c0 : w1.cell? ⟨g, 0, none⟩ = some (.slice A rs.length cap) := hb1.cell 0 _ rfl
  have hlt := hb.lt
  have HB0 := Lib.hid hb
  have HB := Lib.hid hb1
  have HV := Lib.hid hv1
  have HV0 := Lib.hid hv
  have HG := Lib.hid hg
  have HN := Lib.hid hn1
  have HE := Lib.hid hbe
  have HS := Lib.hid hn
  have HL : Hid (g < w.heap.size) := Lib.hid hlt
  clear hb hv hn hg hb1 hv1 hn1 hbe hw1 hlt
  obtain ⟨cs, hcs⟩ : ∃ cs, bcells (rs.take n) = cs := ⟨_, rfl⟩
  have h1 := take_len n rs
  have h2 : ∀ w', Bts w' B 5 (.slice A rs.length cap) rs → 0 < cs.length → ∃ ad, A = some ad ∧ ∀ j v, cs[j]? = some v → w'.cell? (ad.add j) = some v := fun w' h hp => by
    have := h.copy_src n (some ⟨w.heap.size, 0, none⟩) w.heap.size rfl
    rw [hcs] at this
    exact (this hp).2
  have h3 := take_fit n rs
  have h4 := bcells_one (rs.take n)
  have h5 := splice_made n rs
  rw [hcs] at h1 h3 h4 h5
  obtain ⟨A', hV'⟩ : ∃ A', sliced A cs.length rs.length cap 1 = .slice A' (rs.length - cs.length) (cap - cs.length) := ⟨_, rfl⟩
  have hcl : cs.length = min n rs.length := by rw [h1, Nat.min_comm]
  have hsl : ∀ w', (Instr.slice 80 (.slice A rs.length cap) (some (.int .i64 cs.length)) none none).run Tryd.prog w' = .ok (.slice A' (rs.length - cs.length) (cap - cs.length)) w' := fun w' => by
    rw [run_slice_l w' 80 A rs.length cap Tryd.underlying80 .i64 _ (Int.natCast_nonneg _) (by omega)]
    rw [size_reader, Int.toNat_natCast]
    exact congrArg (Result.ok · w') hV'
  have hdr : rs.drop cs.length = rs.drop n := by
    rw [hcl]
    by_cases hc : n ≤ rs.length
    · rw [Nat.min_eq_left hc]
    · rw [Nat.min_eq_right (by omega), List.drop_length, List.drop_eq_nil_of_le (by omega)]
  have hbv : ∀ w', Bts w' B 5 (.slice A rs.length cap) rs → Bts w' B 5 (.slice A' (rs.length - cs.length) (cap - cs.length)) (rs.drop n) := fun w' h => by
    rw [← hV', ← hdr]; exact h.from_ cs.length (by omega)
  have H1 := Lib.hid h1
  have H2 := Lib.hid h2
  have H3 := Lib.hid h3
  have H4 := Lib.hid h4
  have H5 := Lib.hid h5
  have H6 := Lib.hid hbv
  clear h1 h2 h3 h4 h5 hcs hV' hcl hdr hbv
  go_enter Tryd.func53, Tryd.ntmps53
  go_wp2
  go_region_law
    ((refine step_copy_splice rfl (.tmp 12) (.tmp 15) 22 80 rfl 5 Tryd.underlying22 u8_size (some ⟨w.heap.size, 0, none⟩) A n n rs.length cap rfl rfl w.heap.size 0 (List.replicate n (Value.int .u8 0)) 5 HN.out.drew cs H1.out (fun hp => ⟨rfl, H2.out _ HV.out.drew hp⟩) H3.out H4.out w.heap.size w (HE.out.drew) (Nat.le_refl _) ?_; intro w2 hr2 hb2; have hbx := (hb2.block _ HL.out).trans HB0.out; have c0' : w2.cell? ⟨g, 0, none⟩ = some (.slice A rs.length cap) := Blk.cell hbx 0 _ rfl; have f0 := Blk.frozen hbx 0))
  all_goals
    go_wp2
    go_ret
    have hl : (takeP n rs).length = n := takeP_length n rs
    have hr3 := hr2.out
    rw [H5.out] at hr3
    have ho : w2.ownsRow w.heap.size 5 1 (.slice (some ⟨w.heap.size, 0, none⟩) n n) n (bcells (takeP n rs)) :=
      ⟨by rw [bcells_length, hl, Nat.mul_one], .inr ⟨_, _, _, rfl, Nat.le_refl _, hr3, Nat.le_refl _, by have := HS.out; unfold maxLen; omega, by simp [bcells, hl], by rw [Nat.mul_one]; exact List.take_of_length_le (by simp [bcells, hl])⟩⟩
    have hon : Only (fun k => k = g) w2 (w2.setCell ⟨g, 0, none⟩ (.slice A' (rs.length - cs.length) (cap - cs.length))) := Only.set1 _ _ _ _
    refine ⟨_, rfl, ownsRow_only ho hon (fun k hk e => by simp [Value.ownBlock] at hk; have := HL.out; omega), ⟨_, Blk.set_ hbx 0 _, (H6.out w2 (HV0.out.below hb2)).keep (KeepB.of_blk hbx (by decide) HG.out hon)⟩, Only.setCell (S := fun k => k = g) (Only.of_below hb2) (p := ⟨g, 0, none⟩) (.inl rfl) _⟩

theorem TakePost.lt {w w' : World} {B g n : Nat} {rs : List UInt8} {v : Value} (h : TakePost w w' B g n rs v) : g < w'.heap.size := by
  obtain ⟨V', h1, _⟩ := h.box
  exact h1.lt

/-- What number has done. -/
structure NumPost (w w' : World) (B g : Nat) (n : Nat) (rs : List UInt8) : Prop where
  box : ∃ V', Blk w' g 80 #[V'] ∧ Bts w' B 5 V' (rs.drop n)
  only : Only (fun k => k = g) w w'

theorem row_bcell {w : World} {base : Nat} {A : Option Addr} {n cap : Nat} {bs : List UInt8} (h : w.ownsRow base 5 1 (.slice A n cap) n (bcells bs)) {i : Nat} {x : UInt8} (hi : bs[i]? = some x) (hn : i < n) :
    ∃ g, A = some ⟨g, 0, none⟩ ∧ w.cell? ⟨g, i, none⟩ = some (.int .u8 (x.toNat : Int)) := by
  rcases h.2 with ⟨_, h2⟩ | ⟨g, c, cur, hv, hg, hh, hnc, hm, hcs, ht⟩
  · omega
  · injection hv with e1 e2 e3
    refine ⟨g, e1, ?_⟩
    have hc : cur[i]? = some (.int .u8 (x.toNat : Int)) := by
      have : (cur.toList.take (n * 1))[i]? = some (.int .u8 (x.toNat : Int)) := by
        rw [ht]
        simp [bcells, hi]
      rw [List.getElem?_take, if_pos (by omega)] at this
      simpa using this
    simp [World.cell?, hh, hc]

set_option maxHeartbeats 1000000 in
theorem number_any (B g : Nat) (V : Value) (rs : List UInt8) (n : Nat) (w : World) (hb : Blk w g 80 #[V]) (hv : Bts w B 5 V rs) (hg : B ≤ g) (hn : n ≤ 3) :
    Calls Tryd.prog 46 #[.pointer (some ⟨g, 0, none⟩), .int .i64 n] w fun e w' => e = .returned (.int .i64 (numBE (takeP n rs))) ∧ NumPost w w' B g n rs := by
  have HB := Lib.hid hb
  have HV := Lib.hid hv
  have HG := Lib.hid hg
  have HN := Lib.hid hn
  clear hb hv hg hn
  go_enter Tryd.func46, Tryd.ntmps46
  go_wp2_with fail
  refine (take_any B g V rs n w HB.out HV.out HG.out (by have := HN.out; omega)).mono ?_
  rintro e w1 ⟨v, rfl, ho, hx, hon⟩
  obtain ⟨A, cap, rfl, _, _⟩ := own_form ho
  have HX := Lib.hid hx
  have HO := Lib.hid ho
  have HY := Lib.hid hon
  clear ho hx hon
  go_wp2_with fail
  go_loopw [5, 12] (fun x i wr => ∃ m : Nat, m ≤ n ∧ i = .int .i64 m ∧ x = .int .i64 (numBE ((takeP n rs).take m)) ∧ wr = w1) (fun _ i _ => n - (intOf i).toNat)
  case atStart => exact ⟨0, by omega, rfl, rfl, rfl⟩
  case round =>
    obtain ⟨m, hm, rfl, rfl, rfl⟩ := hrel
    by_cases hml : m < n
    · obtain ⟨x, hx⟩ : ∃ x, (takeP n rs)[m]? = some x := ⟨_, List.getElem?_eq_getElem (by rw [takeP_length]; exact hml)⟩
      obtain ⟨gg, rfl, hc⟩ := row_bcell HO.out hx hml
      have hmI : (m : Int) < (n : Int) := by omega
      have hnI : (n : Int) ≤ 3 := by have := HN.out; omega
      have hxb := numBE_lt ((takeP n rs).take m)
      have hxl : ((takeP n rs).take m).length = m := by rw [List.length_take, takeP_length]; omega
      have hn3 := HN.out
      have h3 : numBE ((takeP n rs).take m) < 65536 := by
        rw [hxl] at hxb
        rcases (by omega : m = 0 ∨ m = 1 ∨ m = 2) with e | e | e <;> rw [e] at hxb ⊢ <;> omega
      have hbb := x.toNat_lt
      have hj := join_i64 (numBE ((takeP n rs).take m)) x.toNat (by omega) hbb
      have ht : (takeP n rs).take (m + 1) = (takeP n rs).take m ++ [x] := by rw [List.take_add_one, hx]; rfl
      have e1 : wrap64 ((numBE ((takeP n rs).take m) : Int) * 256) = (numBE ((takeP n rs).take m) : Int) * 256 := by unfold wrap64; omega
      have e2 : wrap64 (x.toNat : Int) = (x.toNat : Int) := by unfold wrap64; omega
      have hq : bits .or .i64 (wrap64 ((numBE ((takeP n rs).take m) : Int) * 256)) (wrap64 (x.toNat : Int)) = (numBE ((takeP n rs).take (m + 1)) : Int) := by rw [e1, e2, hj, ht, numBE_snoc]
      have HQ := Lib.hid hq
      clear hxb hxl h3 hbb hj ht e1 e2 hq hx hn3
      go_wp2_with fail
      go_roundw
      case rel => exact ⟨m + 1, by omega, by go_num, by rw [HQ.out], trivial⟩
      case measure => simp [intOf]; omega
    · obtain rfl : m = n := by omega
      go_wp2_with fail
      go_ret
      exact ⟨by rw [show (takeP m rs).take m = takeP m rs from List.take_of_length_le (by rw [takeP_length]; exact Nat.le_refl _)]; rfl, HX.out, HY.out⟩

end Go.Proofs.YtffigmciclopdaaDoor
