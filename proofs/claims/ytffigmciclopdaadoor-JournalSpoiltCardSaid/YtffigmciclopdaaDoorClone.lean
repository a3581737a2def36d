/- bytes.Clone, for any seat. -/
import Derived.Test.YtffigmciclopdaaDoorBase
import Derived.Test.YtffigmciclopdaaDoorRows
import Derived.BigQuiet
import Derived.Deep.QuietTactic
import Derived.Deep.RegionLaw
import Derived.RegionTactic
namespace Go.Proofs.YtffigmciclopdaaDoor
open Go Go.RowKit

theorem u8_info : (Tryd.prog.info? 5).map (fun i => (i.zero, i.size, i.bytes)) = some (some (.int .u8 0), 1, 1) := by kernel_rfl

/-- A slice of bytes of the call's own is returned. -/
def OwnRet (bs : List UInt8) (w : World) (e : Ending) (w' : World) : Prop :=
  ∃ v, e = .returned v ∧ w'.ownsRow w.heap.size 5 1 v bs.length (bcells bs) ∧ Below w.heap.size w w'

set_option maxHeartbeats 400000 in
theorem bytesClone_any (B : Nat) (v : Value) (bs : List UInt8) (w : World) (hb : Bts w B 5 v bs) (hl : bs.length ≤ 1000000000) :
    Calls Tryd.prog 29 #[v] w (OwnRet bs w) := by
  obtain ⟨A, cap, rfl⟩ := hb.form
  have HL := Lib.hid hl
  clear hl
  obtain ⟨i0, hi0, hz0, hz1, hz2⟩ := info_parts u8_info
  cases A with
  | none =>
    have h0 := hb.src_at.2.2.1 rfl
    have : bs = [] := by simpa using h0
    subst this
    clear hb h0
    go_enter Tryd.func29, Tryd.ntmps29
    go_wp2
    go_ret
    exact ⟨_, rfl, World.ownsRow_nil _ _ _ _, Below.refl _ _⟩
  | some a =>
    have HS := Lib.hid hb
    clear hb
    go_enter Tryd.func29, Tryd.ntmps29
    go_wp2_with (at_builtin; refine wpList_append_src _ rfl _ _ _ rfl w.heap.size 5 i0 _ 1 1 Tryd.underlying22 hi0 hz0 hz1 hz2 rfl (by decide) _ 0 [] rfl (own_empty w _ _) (some a) bs.length cap (bcells bs) rfl (HS.out.alloc _).src_at.2 (bcells_one _) (by have := HL.out; unfold maxLen; omega) (by have := HL.out; omega) (by simp) ?_; intro v1 w1 hown hg hat)
    go_ret
    refine ⟨v1, rfl, by simpa using hown, ?_⟩
    exact ((Below.refl _ _).alloc (Nat.le_refl _) _).grown hg (by simp) (by intro k hk; cases hk; exact Nat.le_refl _)


end Go.Proofs.YtffigmciclopdaaDoor
