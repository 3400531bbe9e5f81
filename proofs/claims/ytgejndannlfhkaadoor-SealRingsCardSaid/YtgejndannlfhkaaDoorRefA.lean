/- The walks of longwireref02.right and longwireref02.shift. No condition but on the counts. -/
import Derived.Test.YtgejndannlfhkaaDoorMem
import Derived.Test.YtgejndannlfhkaaDoorProg
import Derived.WalkKit
import Derived.LoopTactic
import Derived.Lib.Hide
namespace Go.Proofs.YtgejndannlfhkaaDoor
open Go Go.RowKit

theorem rot_one (x : W32) : (x.rotateRight 1).toNat = x.toNat / 2 + x.toNat % 2 * 2147483648 := by
  have h : x.rotateRight 1 = x >>> 1 ||| x <<< 31 := by rw [BitVec.rotateRight_def]
  rw [h, BitVec.toNat_or, BitVec.toNat_ushiftRight, BitVec.toNat_shiftLeft, Nat.shiftRight_eq_div_pow, Nat.shiftLeft_eq]
  have h1 : x.toNat * 2 ^ 31 % 2 ^ 32 = 2 ^ 31 * (x.toNat % 2) := by omega
  have h2 : x.toNat / 2 ^ 1 < 2 ^ 31 := by have := x.isLt; omega
  rw [h1, Nat.or_comm, ← Nat.two_pow_add_eq_or_of_lt h2]
  omega
theorem rot_step (x : W32) : n32 x / 2 + n32 x % 2 * 2147483648 = n32 (x.rotateRight 1) := by
  unfold n32; rw [rot_one]; omega
theorem rot_rot (x : W32) (k : Nat) (h : k + 1 < 32) : (x.rotateRight k).rotateRight 1 = x.rotateRight (k + 1) := by
  apply BitVec.eq_of_getElem_eq
  intro i hi
  have e1 : k % 32 = k := Nat.mod_eq_of_lt (by omega)
  have e2 : (k + 1) % 32 = k + 1 := Nat.mod_eq_of_lt (by omega)
  simp only [BitVec.getElem_rotateRight, e1, e2]
  split <;> split <;> (try split) <;> (first | (congr 1; omega) | omega | skip)
theorem half_step (x : W32) : n32 x / (2 : Int) = n32 (x >>> 1) := by
  unfold n32; rw [BitVec.toNat_ushiftRight, Nat.shiftRight_eq_div_pow]; omega
theorem shr_shr (x : W32) (k : Nat) : (x >>> k) >>> 1 = x >>> (k + 1) := by
  rw [← BitVec.shiftRight_add]

theorem right_any (x : W32) (k : Nat) (hk : k < 32) (w : World) : Calls Tryd.prog 50 #[.int .u32 (n32 x), .int .i64 (k : Int)] w fun e w' => e = .returned (.int .u32 (n32 (x.rotateRight k))) ∧ w' = w := by
  go_enter Tryd.func50, Tryd.ntmps50
  go_wp2_with fail
  go_loop [0, 5] (fun n i => ∃ j : Nat, j ≤ k ∧ i = .int .i64 j ∧ n = .int .u32 (n32 (x.rotateRight j))) (fun _ i => k - (intOf i).toNat)
  case atStart => exact ⟨0, by omega, rfl, by rw [BitVec.rotateRight_def]; simp⟩
  case round =>
    obtain ⟨j, hj, rfl, rfl⟩ := hrel
    by_cases hlt : j < k
    · have hr := rot_rot x j (by omega)
      obtain ⟨y, hy⟩ : ∃ y, y = x.rotateRight j := ⟨_, rfl⟩
      rw [← hy] at hr ⊢
      have h1 := rot_step y
      have h2 := n32_bd y
      obtain ⟨h3, h4⟩ := h2
      have H1 := Lib.hid h1
      have HR := Lib.hid hr
      clear h1 hr hy
      go_wp2_with fail
      go_round
      case rel => exact ⟨j + 1, by omega, by go_num, by rw [H1.out, HR.out]⟩
      case measure => simp [intOf]; omega
    · obtain rfl : j = k := by omega
      go_wp2_with fail
      go_ret
      exact ⟨rfl, rfl⟩
theorem shift_any (x : W32) (k : Nat) (hk : k < 32) (w : World) : Calls Tryd.prog 51 #[.int .u32 (n32 x), .int .i64 (k : Int)] w fun e w' => e = .returned (.int .u32 (n32 (x >>> k))) ∧ w' = w := by
  go_enter Tryd.func51, Tryd.ntmps51
  go_wp2_with fail
  go_loop [0, 5] (fun n i => ∃ j : Nat, j ≤ k ∧ i = .int .i64 j ∧ n = .int .u32 (n32 (x >>> j))) (fun _ i => k - (intOf i).toNat)
  case atStart => exact ⟨0, by omega, rfl, by simp⟩
  case round =>
    obtain ⟨j, hj, rfl, rfl⟩ := hrel
    by_cases hlt : j < k
    · have hr := shr_shr x j
      obtain ⟨y, hy⟩ : ∃ y, y = x >>> j := ⟨_, rfl⟩
      rw [← hy] at hr ⊢
      have h1 := half_step y
      have h2 := n32_bd y
      obtain ⟨h3, h4⟩ := h2
      have H1 := Lib.hid h1
      have HR := Lib.hid hr
      clear h1 hr hy
      go_wp2_with fail
      go_round
      case rel => exact ⟨j + 1, by omega, by go_num, by rw [H1.out, HR.out]⟩
      case measure => simp [intOf]; omega
    · obtain rfl : j = k := by omega
      go_wp2_with fail
      go_ret
      exact ⟨rfl, rfl⟩
theorem right_int (x : W32) (k : Int) (h0 : 0 ≤ k ∧ k < 32) (w : World) : Calls Tryd.prog 50 #[.int .u32 (n32 x), .int .i64 k] w fun e w' => e = .returned (.int .u32 (n32 (x.rotateRight k.toNat))) ∧ w' = w := by
  obtain ⟨n, rfl⟩ := Int.eq_ofNat_of_zero_le h0.1
  exact right_any x n (by omega) w
theorem shift_int (x : W32) (k : Int) (h0 : 0 ≤ k ∧ k < 32) (w : World) : Calls Tryd.prog 51 #[.int .u32 (n32 x), .int .i64 k] w fun e w' => e = .returned (.int .u32 (n32 (x >>> k.toNat))) ∧ w' = w := by
  obtain ⟨n, rfl⟩ := Int.eq_ofNat_of_zero_le h0.1
  exact shift_any x n (by omega) w
end Go.Proofs.YtgejndannlfhkaaDoor
