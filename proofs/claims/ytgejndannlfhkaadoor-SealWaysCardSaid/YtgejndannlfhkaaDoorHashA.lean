/- The walks of bits.RotateLeft32 and of hash's turn and slide. No condition. -/
import Derived.Test.YtgejndannlfhkaaDoorSha
import Derived.Test.YtgejndannlfhkaaDoorProg
import Derived.Lib.Hide
import Derived.BigQuiet
import Derived.Deep.QuietTactic
import Derived.Outline
namespace Go.Proofs.YtgejndannlfhkaaDoor
open Go Go.RowKit
attribute [local go_sem] n32_add n32_xor n32_and n32_or
attribute [local go_sem ↓] n32_shl n32_shr
theorem ret_w {x y : W32} (h : x = y) : Ending.returned (.int .u32 (n32 x)) = .returned (.int .u32 (n32 y)) := by rw [h]
theorem rot_or (x : W32) (k : Nat) (h1 : k < 32) : x <<< (32 - k) ||| x >>> k = x.rotateRight k := by
  rw [BitVec.rotateRight_def, BitVec.or_comm, Nat.mod_eq_of_lt h1]
theorem rot_any (x : W32) (k : Nat) (h0 : 0 < k) (h1 : k < 32) (w : World) : Calls Tryd.prog 81 #[.int .u32 (n32 x), .int .i64 (-(k : Int))] w fun e w' => e = .returned (.int .u32 (n32 (x.rotateRight k))) ∧ w' = w := by
  have hk := neg_count k h0 h1
  have h32 : IntKind.u64.wrap (32 - ((32 - k : Nat) : Int)) = (k : Int) := by
    rw [Go.IntKind.wrap_u64]; omega
  have hr := Lib.hid (rot_or x k h1)
  go_enter Tryd.func81, Tryd.ntmps81
  go_wp2
  go_ret
  exact ⟨ret_w hr.out, rfl⟩

theorem rot_int (x : W32) (k : Int) (h0 : 0 < k ∧ k < 32) (w : World) : Calls Tryd.prog 81 #[.int .u32 (n32 x), .int .i64 (-k)] w fun e w' => e = .returned (.int .u32 (n32 (x.rotateRight k.toNat))) ∧ w' = w := by
  obtain ⟨n, rfl⟩ := Int.eq_ofNat_of_zero_le (Int.le_of_lt h0.1)
  exact rot_any x n (by omega) (by omega) w

theorem turn_any (n : W32) (x y z : Int) (hx : 0 < x ∧ x < 32) (hy : 0 < y ∧ y < 32) (hz : 0 < z ∧ z < 32) (w : World) :
    Calls Tryd.prog 75 #[.int .u32 (n32 n), .int .i64 x, .int .i64 y, .int .i64 z] w fun e w' => e = .returned (.int .u32 (n32 (turnW n x.toNat y.toNat z.toNat))) ∧ w' = w := by
  go_enter Tryd.func75, Tryd.ntmps75
  go_wp2_with (go_at_call 81; refine (rot_int _ _ (by omega) _).mono ?_; rintro e w' ⟨rfl, rfl⟩)
  go_ret
  exact ⟨rfl, rfl⟩

theorem slide_any (n : W32) (x y z : Int) (hx : 0 < x ∧ x < 32) (hy : 0 < y ∧ y < 32) (hz : 0 ≤ z) (w : World) :
    Calls Tryd.prog 80 #[.int .u32 (n32 n), .int .i64 x, .int .i64 y, .int .i64 z] w fun e w' => e = .returned (.int .u32 (n32 (slideW n x.toNat y.toNat z.toNat))) ∧ ∃ m, w' = w.drewN m := by
  go_enter Tryd.func80, Tryd.ntmps80
  go_wp2_with fail
  go_quiet ((go_at_call 81; exact Calls.quiet_of_same (rot_int _ _ (by omega) _)))
  go_wp2
  go_ret
  exact ⟨rfl, nq, rfl⟩
end Go.Proofs.YtgejndannlfhkaaDoor
