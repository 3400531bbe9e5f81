/- Words for the walks: 32-bit words and bytes behind plain names, and their arithmetic as the walk spells it. No condition. -/
import Derived.WalkKit
import Derived.Laws.BitsAllLaws
import Derived.Laws.Shifts
namespace Go.Proofs.YtgejndannlfhkaaDoor
open Go

abbrev W32 := BitVec 32
/-- A word's number. -/
def n32 (x : W32) : Int := (x.toNat : Int)
/-- A byte's number. -/
def n8 (x : UInt8) : Int := (x.toNat : Int)

theorem n32_bd (x : W32) : 0 ≤ n32 x ∧ n32 x < 4294967296 := by
  unfold n32; have := x.isLt; omega
theorem n8_bd (x : UInt8) : 0 ≤ n8 x ∧ n8 x < 256 := by
  unfold n8; have := x.toNat_lt; omega

theorem wrap_u32 (n : Int) : IntKind.u32.wrap n = n % 4294967296 := by simp [IntKind.wrap, IntKind.bits, IntKind.signed]

theorem wrap_nat32 (n : Nat) : IntKind.u32.wrap (n : Int) = n32 (BitVec.ofNat 32 n) := by
  rw [wrap_u32]; unfold n32; rw [BitVec.toNat_ofNat]; omega

theorem n32_add (x y : W32) : IntKind.u32.wrap (n32 x + n32 y) = n32 (x + y) := by
  rw [wrap_u32]; unfold n32; rw [BitVec.toNat_add]; omega

theorem bits_n32 (x y : W32) (op : BinOp) (f : W32 → W32 → W32) (h : bits op .u32 (n32 x) (n32 y) = IntKind.u32.wrap ((f (BitVec.ofInt 32 (n32 x)) (BitVec.ofInt 32 (n32 y))).toNat : Int)) :
    bits op .u32 (n32 x) (n32 y) = n32 (f x y) := by
  rw [h]
  have e : ∀ z : W32, BitVec.ofInt 32 (n32 z) = z := fun z => by unfold n32; rw [BitVec.ofInt_natCast]; simp
  rw [e, e, wrap_nat32]; simp

theorem n32_xor (x y : W32) : bits .xor .u32 (n32 x) (n32 y) = n32 (x ^^^ y) := bits_n32 x y .xor (· ^^^ ·) rfl
theorem n32_and (x y : W32) : bits .and .u32 (n32 x) (n32 y) = n32 (x &&& y) := bits_n32 x y .and (· &&& ·) rfl
theorem n32_or (x y : W32) : bits .or .u32 (n32 x) (n32 y) = n32 (x ||| y) := bits_n32 x y .or (· ||| ·) rfl

theorem n32_shl (x : W32) (yk : IntKind) (y : Int) (h : 0 ≤ y) : Op.shift .shl .u32 (n32 x) yk y = pure (.int .u32 (n32 (x <<< y.toNat))) := by
  rw [shift_shl_any _ _ _ _ h]
  have e : IntKind.u32.wrap (n32 x * 2 ^ min y.toNat IntKind.u32.bits) = n32 (x <<< y.toNat) := by
    have hb : IntKind.u32.bits = 32 := rfl
    rw [hb]
    have h2 : n32 x * 2 ^ min y.toNat 32 = ((x.toNat * 2 ^ min y.toNat 32 : Nat) : Int) := by unfold n32; simp
    rw [h2, wrap_nat32]
    congr 1
    apply BitVec.eq_of_toNat_eq
    rw [BitVec.toNat_ofNat, BitVec.toNat_shiftLeft, Nat.shiftLeft_eq]
    by_cases hy : y.toNat ≤ 32
    · rw [Nat.min_eq_left hy]
    · have h3 : min y.toNat 32 = 32 := by omega
      rw [h3]
      have h4 : 2 ^ y.toNat = 2 ^ 32 * 2 ^ (y.toNat - 32) := by rw [← Nat.pow_add]; congr 1; omega
      rw [h4, Nat.mul_comm (2 ^ 32), ← Nat.mul_assoc, Nat.mul_mod_left, Nat.mul_mod_left]
  rw [e]

theorem n32_shr (x : W32) (yk : IntKind) (y : Int) (h : 0 ≤ y) : Op.shift .shr .u32 (n32 x) yk y = pure (.int .u32 (n32 (x >>> y.toNat))) := by
  rw [shift_shr_any _ _ _ _ h]
  have e : n32 x / 2 ^ min y.toNat IntKind.u32.bits = n32 (x >>> y.toNat) := by
    have hb : IntKind.u32.bits = 32 := rfl
    rw [hb]
    have h2 : n32 x / 2 ^ min y.toNat 32 = ((x.toNat / 2 ^ min y.toNat 32 : Nat) : Int) := by unfold n32; simp
    rw [h2]; unfold n32
    congr 1
    rw [BitVec.toNat_ushiftRight, Nat.shiftRight_eq_div_pow]
    by_cases hy : y.toNat ≤ 32
    · rw [Nat.min_eq_left hy]
    · have h3 : min y.toNat 32 = 32 := by omega
      have hx : x.toNat < 2 ^ 32 := x.isLt
      have h5 : 2 ^ 32 ≤ 2 ^ y.toNat := Nat.pow_le_pow_right (by decide) (by omega)
      rw [h3, Nat.div_eq_of_lt hx, Nat.div_eq_of_lt (Nat.lt_of_lt_of_le hx h5)]
  rw [e]

theorem u32_signed : IntKind.u32.signed = false := rfl
theorem n32_not (x : W32) : bits .xor .u32 IntKind.u32.max (n32 x) = n32 (~~~x) := by
  have h1 : IntKind.u32.max = n32 (BitVec.allOnes 32) := rfl
  rw [h1, n32_xor, BitVec.allOnes_xor]

/-- A number of 64 bits. -/
def n64 (x : BitVec 64) : Int := (x.toNat : Int)
theorem n64_bd (x : BitVec 64) : 0 ≤ n64 x ∧ n64 x < 18446744073709551616 := by
  unfold n64; have := x.isLt; omega
theorem nat_n64 (n : Nat) (h : n < 18446744073709551616) : (n : Int) = n64 (BitVec.ofNat 64 n) := by
  unfold n64; rw [BitVec.toNat_ofNat, Nat.mod_eq_of_lt h]
theorem wrap_nat64 (n : Nat) : IntKind.u64.wrap (n : Int) = n64 (BitVec.ofNat 64 n) := by
  rw [IntKind.wrap_u64]; unfold n64; rw [BitVec.toNat_ofNat]; omega
theorem n64_shr (x : BitVec 64) (yk : IntKind) (y : Int) (h : 0 ≤ y) : Op.shift .shr .u64 (n64 x) yk y = pure (.int .u64 (n64 (x >>> y.toNat))) := by
  rw [shift_shr_any _ _ _ _ h]
  have e : n64 x / 2 ^ min y.toNat IntKind.u64.bits = n64 (x >>> y.toNat) := by
    have hb : IntKind.u64.bits = 64 := rfl
    rw [hb]
    have h2 : n64 x / 2 ^ min y.toNat 64 = ((x.toNat / 2 ^ min y.toNat 64 : Nat) : Int) := by unfold n64; simp
    rw [h2]; unfold n64
    congr 1
    rw [BitVec.toNat_ushiftRight, Nat.shiftRight_eq_div_pow]
    by_cases hy : y.toNat ≤ 64
    · rw [Nat.min_eq_left hy]
    · have h3 : min y.toNat 64 = 64 := by omega
      have hx : x.toNat < 2 ^ 64 := x.isLt
      have h5 : 2 ^ 64 ≤ 2 ^ y.toNat := Nat.pow_le_pow_right (by decide) (by omega)
      rw [h3, Nat.div_eq_of_lt hx, Nat.div_eq_of_lt (Nat.lt_of_lt_of_le hx h5)]
  rw [e]
theorem wrap_u8 (n : Int) : IntKind.u8.wrap n = n % 256 := by simp [IntKind.wrap, IntKind.bits, IntKind.signed]
theorem n8_ofNat (n : Nat) : ((n % 256 : Nat) : Int) = n8 (UInt8.ofNat n) := by unfold n8; simp
theorem n32_to8 (x : W32) : IntKind.u8.wrap (n32 x) = n8 (UInt8.ofNat x.toNat) := by
  rw [wrap_u8, ← n8_ofNat]; unfold n32; omega
theorem n64_to8 (x : BitVec 64) : IntKind.u8.wrap (n64 x) = n8 (UInt8.ofNat x.toNat) := by
  rw [wrap_u8, ← n8_ofNat]; unfold n64; omega

theorem neg_count (k : Nat) (h0 : 0 < k) (h1 : k < 32) : bits .and .u64 (IntKind.u64.wrap (-(k : Int))) 31 = ((32 - k : Nat) : Int) := by
  have h : ∀ j : Fin 32, 0 < j.val → bits .and .u64 (IntKind.u64.wrap (-(j.val : Int))) 31 = ((32 - j.val : Nat) : Int) := by decide +kernel
  exact h ⟨k, h1⟩ h0
end Go.Proofs.YtgejndannlfhkaaDoor
