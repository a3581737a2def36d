/- KnRpN -/
import Derived.Test.YtccballhhbgfaaaGreatDoorMe16
namespace Go.Proofs.YtccballhhbgfaaaGreatDoor
open Go Go.RowKit Go.Sy
def gs47 (t0 t1 : TypeId) : List (Nat × GV) := [(0, gInts .i64 t0 kindsN), (1, gInts .u8 t1 bruijnN)]
def op9 (a0 a1 : Int) (key : ByteArray) (A : Option Addr) (n k : Nat) (a4 a5 a6 a7 a8 : Int) (t1 t2 : List (Nat × Int × Bool)) : AV := .agg [.ov (.int .i64 a0), .ov (.int .u64 a1), .ol (.string key) key.size t1, .ol (.slice A n k) n t2, .ov (.int .u64 a4), .ov (.int .i64 a5), .ov (.int .i64 a6), .ov (.int .i64 a7), .ov (.int .u64 a8)]
theorem op9_conc (s : Sg) (a0 a1 : Int) (key : ByteArray) (A : Option Addr) (n k : Nat) (a4 a5 a6 a7 a8 : Int) (t1 t2 : List (Nat × Int × Bool)) (h1 : t1.all (testB key.size) = true) (h2 : t2.all (testB n) = true) :
    (op9 a0 a1 key A n k a4 a5 a6 a7 a8 t1 t2).conc s = some (.agg #[.int .i64 a0, .int .u64 a1, .string key, .slice A n k, .int .u64 a4, .int .i64 a5, .int .i64 a6, .int .i64 a7, .int .u64 a8]) := by
  simp only [op9, AV.conc, concL, h1, h2, Value.oneCell', lenV]
  simp
  exact ⟨rfl, rfl, rfl, rfl, rfl, rfl, rfl, rfl, rfl⟩
set_option maxRecDepth 100000 in
set_option maxHeartbeats 0 in
theorem rp_eval1 (t0 t1 : TypeId) (a0 a1 : Int) (key : ByteArray) (A : Option Addr) (n k : Nat) (a4 a5 a6 a7 a8 m : Int) (B : Option Addr) (nb kb : Nat) : runP Tryz.prog orcL 100000 3 [op9 a0 a1 key A n k a4 a5 a6 a7 a8 [(4, .ofNat 300, false)] [], .ov (.int .i64 m), .ol (.slice B nb kb) nb []] (.b true) (gs47 t0 t1) 0 = (AV.b true = AV.b true ∧ (t0 = t0) ∧ (t1 = t1) ∧ True) := by kernel_rfl
set_option maxRecDepth 100000 in
set_option maxHeartbeats 0 in
theorem rp_eval2 (t0 t1 : TypeId) (a0 a1 : Int) (key : ByteArray) (A : Option Addr) (n k : Nat) (a4 a5 a6 a7 a8 m : Int) (B : Option Addr) (nb kb : Nat) : runP Tryz.prog orcL 100000 3 [op9 a0 a1 key A n k a4 a5 a6 a7 a8 [(4, .ofNat 300, true)] [(4, .ofNat 300, false)], .ov (.int .i64 m), .ol (.slice B nb kb) nb []] (.b true) (gs47 t0 t1) 0 = (AV.b true = AV.b true ∧ (t0 = t0) ∧ (t1 = t1) ∧ True) := by kernel_rfl
set_option maxRecDepth 100000 in
set_option maxHeartbeats 0 in
theorem rp_eval3 (t0 t1 : TypeId) (a0 a1 : Int) (key : ByteArray) (A : Option Addr) (n k : Nat) (a4 a5 a6 a7 a8 m : Int) (B : Option Addr) (nb kb : Nat) : runP Tryz.prog orcL 100000 3 [op9 a0 a1 key A n k a4 a5 a6 a7 a8 [(4, .ofNat 300, true)] [(4, .ofNat 300, true)], .ov (.int .i64 m), .ol (.slice B nb kb) nb [(5, .ofNat 100, true)]] (.b true) (gs47 t0 t1) 0 = (AV.b true = AV.b true ∧ (t0 = t0) ∧ (t1 = t1) ∧ True) := by kernel_rfl
set_option maxRecDepth 100000 in
set_option maxHeartbeats 0 in
theorem rp_eval4 (t0 t1 : TypeId) (a0 a1 : Int) (key : ByteArray) (A : Option Addr) (n k : Nat) (a4 a5 a6 a7 a8 m : Int) (B : Option Addr) (nb kb : Nat) : runP Tryz.prog orcL 100000 3 [op9 a0 a1 key A n k a4 a5 a6 a7 a8 [(4, .ofNat 300, true)] [(4, .ofNat 300, true)], .ov (.int .i64 m), .ol (.slice B nb kb) nb [(5, .ofNat 100, false)]] (.b true) (gs47 t0 t1) 0 = (AV.b true = AV.b true ∧ (t0 = t0) ∧ (t1 = t1) ∧ True) := by kernel_rfl
end Go.Proofs.YtccballhhbgfaaaGreatDoor
