/- The reference's arithmetic, plainly: words of four bytes, the schedule as a growing row, the padding, the eight bytes of the count, the bytes of the hash. No condition. -/
import Derived.Test.YtgejndannlfhkaaDoorSha
namespace Go.Proofs.YtgejndannlfhkaaDoor

theorem push8_toNat (w : W32) (c : UInt8) (h : w.toNat < 16777216) : (push8 w c).toNat = w.toNat * 256 + c.toNat := by
  have hc := c.toNat_lt
  unfold push8 w8
  rw [BitVec.toNat_or, BitVec.toNat_shiftLeft, Nat.shiftLeft_eq, BitVec.toNat_ofNat]
  have h1 : w.toNat * 2 ^ 8 % 2 ^ 32 = 2 ^ 8 * w.toNat := by omega
  have h2 : c.toNat % 2 ^ 32 = c.toNat := by omega
  have h3 : c.toNat < 2 ^ 8 := by omega
  rw [h1, h2, ← Nat.two_pow_add_eq_or_of_lt h3]
  omega
theorem word_sum (bs : List UInt8) (t : Nat) : n8 (bs.getD (4 * t) 0) * 16777216 + n8 (bs.getD (4 * t + 1) 0) * 65536 + n8 (bs.getD (4 * t + 2) 0) * 256 + n8 (bs.getD (4 * t + 3) 0) = n32 (word bs t) := by
  have e0 : word bs t = push8 (push8 (push8 (push8 0 (bs.getD (4 * t + 0) 0)) (bs.getD (4 * t + 1) 0)) (bs.getD (4 * t + 2) 0)) (bs.getD (4 * t + 3) 0) := rfl
  rw [e0]
  generalize bs.getD (4 * t + 3) 0 = b3
  generalize bs.getD (4 * t + 2) 0 = b2
  generalize bs.getD (4 * t + 1) 0 = b1
  rw [show 4 * t + 0 = 4 * t from rfl]
  generalize bs.getD (4 * t) 0 = b0
  have h0 := b0.toNat_lt
  have h1 := b1.toNat_lt
  have h2 := b2.toNat_lt
  have h3 := b3.toNat_lt
  have p0 : (push8 0 b0).toNat = b0.toNat := by rw [push8_toNat _ _ (by decide)]; simp
  have p1 := push8_toNat (push8 0 b0) b1 (by omega)
  have p2 := push8_toNat (push8 (push8 0 b0) b1) b2 (by omega)
  have p3 := push8_toNat (push8 (push8 (push8 0 b0) b1) b2) b3 (by omega)
  unfold n8 n32
  omega

/-- The first t words. -/
def firstW (bs : List UInt8) (t : Nat) : List W32 := (schedTo bs t).take t
theorem firstW_length (bs : List UInt8) (t : Nat) (h : t ≤ 64) : (firstW bs t).length = t := by
  rw [firstW, List.length_take, schedTo_length]; omega
theorem firstW_get (bs : List UInt8) (t i : Nat) (h : i < t) : (firstW bs t).getD i 0 = (schedTo bs t).getD i 0 := by
  simp [firstW, List.getD, h]
theorem firstW_succ (bs : List UInt8) (t : Nat) (h : t < 64) (x : W32) (hx : x = if t < 16 then word bs t else nextW (schedTo bs t) t) : firstW bs (t + 1) = firstW bs t ++ [x] := by
  have e : schedTo bs (t + 1) = (schedTo bs t).set t x := by rw [schedTo, ← hx]
  rw [firstW, firstW, e]
  apply List.ext_getElem?
  intro i
  rw [List.getElem?_take, List.getElem?_append, List.length_take, schedTo_length, Nat.min_eq_left (by omega), List.getElem?_take]
  by_cases h1 : i < t
  · rw [if_pos (by omega), if_pos h1, if_pos h1, List.getElem?_set_ne (by omega)]
  · by_cases h2 : i = t
    · subst h2
      rw [if_pos (by omega), if_neg (by omega), List.getElem?_set_self (by rw [schedTo_length]; exact h)]
      simp
    · rw [if_neg (by omega), if_neg (by omega), List.getElem?_eq_none (by simp; omega)]
theorem firstW_all (bs : List UInt8) : firstW bs 64 = schedTo bs 64 := by
  rw [firstW]; exact List.take_of_length_le (by rw [schedTo_length]; omega)

/-- 256 to the k-th; what is left of the seventh behind k steps. -/
def pw (k : Nat) : Nat := 256 ^ k
def dv (k : Nat) : Nat := 256 ^ 7 / 256 ^ k
theorem pw_zero : pw 0 = 1 := rfl
theorem pw_succ (k : Nat) : (pw k : Int) * 256 = (pw (k + 1) : Nat) := by unfold pw; rw [Nat.pow_succ]; omega
theorem pw_bd (k : Nat) (h : k < 7) : 0 ≤ (pw k : Int) ∧ (pw k : Int) ≤ 281474976710656 := by
  refine ⟨by omega, ?_⟩
  have : pw k ≤ 256 ^ 6 := Nat.pow_le_pow_right (by decide) (by omega)
  have e : (256 : Nat) ^ 6 = 281474976710656 := by decide
  omega
theorem pw_seven : pw 7 = dv 0 := by decide
theorem dv_succ (k : Nat) : (dv k : Int) / 256 = (dv (k + 1) : Nat) := by
  have : dv k / 256 = dv (k + 1) := by unfold dv; rw [Nat.div_div_eq_div_mul, ← Nat.pow_succ]
  omega
theorem dv_pow (k : Nat) (h : k ≤ 7) : dv k = 2 ^ (56 - 8 * k) := by
  match k, h with
  | 0, _ => decide
  | 1, _ => decide
  | 2, _ => decide
  | 3, _ => decide
  | 4, _ => decide
  | 5, _ => decide
  | 6, _ => decide
  | 7, _ => decide
theorem dv_bd (k : Nat) (h : k < 8) : 1 ≤ (dv k : Int) := by
  rw [dv_pow k (by omega)]
  have : 0 < 2 ^ (56 - 8 * k) := Nat.two_pow_pos _
  omega
theorem dv_top (k : Nat) (h : k ≤ 7) : (dv k : Int) ≤ 72057594037927936 := by
  rw [dv_pow k h]
  have : 2 ^ (56 - 8 * k) ≤ 2 ^ 56 := Nat.pow_le_pow_right (by decide) (by omega)
  omega
theorem dv_byte (n k : Nat) (h : k < 8) : (n : Int) / (dv k : Int) % 256 = n8 (UInt8.ofNat (n >>> (56 - 8 * k))) := by
  rw [dv_pow k (by omega), ← n8_ofNat, Nat.shiftRight_eq_div_pow, Int.natCast_emod, Int.natCast_ediv]
  rfl
theorem eight_byte (M : BitVec 64) (k : Nat) (h : k < 8) : n64 M / (dv k : Int) % 256 = n8 (UInt8.ofNat (M.toNat >>> (56 - 8 * k))) := dv_byte M.toNat k h

theorem eight_walk (M : BitVec 64) (k : Nat) (h : k < 8) : (IntKind.u64.wrap ((n64 M).tdiv (dv k : Nat))).tmod 256 % 256 = n8 (UInt8.ofNat (M.toNat >>> (56 - 8 * k))) := by
  have hb := n64_bd M
  have hd := dv_bd k h
  have h1 : (n64 M).tdiv (dv k : Nat) = n64 M / (dv k : Nat) := Int.tdiv_eq_ediv_of_nonneg hb.1
  have h2 : 0 ≤ n64 M / (dv k : Nat) := Int.ediv_nonneg hb.1 (by omega)
  have h3 : n64 M / (dv k : Nat) ≤ n64 M := Int.ediv_le_self _ hb.1
  rw [h1, IntKind.wrap_u64, Int.emod_eq_of_lt h2 (by omega), Int.tmod_eq_emod_of_nonneg h2, ← eight_byte M k h]
  omega
theorem byte_24 (x : W32) : n32 x / (16777216 : Int) = n8 (UInt8.ofNat (x.toNat >>> 24)) := by
  rw [← n8_ofNat, Nat.shiftRight_eq_div_pow]; unfold n32; have := x.isLt; omega
theorem byte_16 (x : W32) : n32 x / (65536 : Int) % (256 : Int) = n8 (UInt8.ofNat (x.toNat >>> 16)) := by
  rw [← n8_ofNat, Nat.shiftRight_eq_div_pow]; unfold n32; omega
theorem byte_8 (x : W32) : n32 x / (256 : Int) % (256 : Int) = n8 (UInt8.ofNat (x.toNat >>> 8)) := by
  rw [← n8_ofNat, Nat.shiftRight_eq_div_pow]; unfold n32; omega
theorem byte_0 (x : W32) : n32 x % (256 : Int) = n8 (UInt8.ofNat (x.toNat >>> 0)) := by
  rw [← n8_ofNat]; unfold n32; simp
theorem digest_four (s : List W32) (i : Nat) : digestTo s (4 * i + 4) = ((((digestTo s (4 * i)).set (4 * i) (UInt8.ofNat ((s.getD i 0).toNat >>> 24))).set (4 * i + 1) (UInt8.ofNat ((s.getD i 0).toNat >>> 16))).set (4 * i + 2) (UInt8.ofNat ((s.getD i 0).toNat >>> 8))).set (4 * i + 3) (UInt8.ofNat ((s.getD i 0).toNat >>> 0)) := by
  have a0 : 4 * i / 4 = i := by omega
  have a1 : (4 * i + 1) / 4 = i := by omega
  have a2 : (4 * i + 2) / 4 = i := by omega
  have a3 : (4 * i + 3) / 4 = i := by omega
  have b0 : 24 - 4 * i % 4 * 8 = 24 := by omega
  have b1 : 24 - (4 * i + 1) % 4 * 8 = 16 := by omega
  have b2 : 24 - (4 * i + 2) % 4 * 8 = 8 := by omega
  have b3 : 24 - (4 * i + 3) % 4 * 8 = 0 := by omega
  simp only [digestTo, a0, a1, a2, a3, b0, b1, b2, b3]
/-- The first k words copied. -/
def copyTo (src z : List W32) : Nat → List W32
  | 0 => z
  | k + 1 => (copyTo src z k).set k (src.getD k 0)
theorem copyTo_length (src z : List W32) : ∀ k, (copyTo src z k).length = z.length
  | 0 => rfl
  | k + 1 => by rw [copyTo, List.length_set]; exact copyTo_length src z k
theorem copy_eight (s : S8) : copyTo s.list (List.replicate 8 0) 8 = s.list := rfl
theorem n32_flip (x : W32) : 4294967295 - n32 x = n32 (~~~x) := by
  unfold n32; rw [BitVec.toNat_not]; have := x.isLt; omega
theorem n32_flipw (x : W32) : IntKind.u32.wrap (4294967295 - n32 x) = n32 (~~~x) := by
  have h := n32_bd x
  rw [wrap_u32, Int.emod_eq_of_lt (by omega) (by omega), n32_flip]
theorem n32_mod (x : W32) : n32 x % 4294967296 = n32 x := by
  have h := n32_bd x
  exact Int.emod_eq_of_lt h.1 h.2
theorem n32_addm (x y : W32) : (n32 x + n32 y) % 4294967296 = n32 (x + y) := by
  rw [← wrap_u32, n32_add]
end Go.Proofs.YtgejndannlfhkaaDoor
