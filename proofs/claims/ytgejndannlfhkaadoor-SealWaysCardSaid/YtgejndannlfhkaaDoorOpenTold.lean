/- What came in, read as a longwirelaw03.Told: five numbers. -/
import Derived.Test.YtgejndannlfhkaaDoorOpen
namespace Go.Proofs.YtgejndannlfhkaaDoor
open Go.ChangeShapes Go.WideShapes Go.ChangeAt Go.RowKit

theorem lit_u32 {z : Int} (h : (Lit.int .u32 z).wf = true) : ∃ n : Nat, z = (n : Int) ∧ n < 4294967296 := by
  simp [Lit.wf, IntKind.min, IntKind.max, IntKind.signed, IntKind.bits] at h
  exact ⟨z.toNat, by omega, by omega⟩
theorem lit_u64 {z : Int} (h : (Lit.int .u64 z).wf = true) : ∃ M : BitVec 64, z = n64 M := by
  simp [Lit.wf, IntKind.min, IntKind.max, IntKind.signed, IntKind.bits] at h
  obtain ⟨h1, h2⟩ := h
  have h3 : ((z.toNat : Nat) : Int) = z := Int.toNat_of_nonneg h1
  have h0 : z.toNat < 18446744073709551616 := by generalize z.toNat = k at h3 ⊢; omega
  exact ⟨BitVec.ofNat 64 z.toNat, h3.symm.trans (nat_n64 _ h0)⟩

section
variable {H : Type} {enc : TypeId × Value → H} {W : World} {base b0 : Nat} {r : Reach} {spare : Nat → Bool} {held : Bool} {v : Value} {d : DataW H} {p : List MemPlace}
set_option maxRecDepth 100000 in
/-- The value is an array of five numbers, each of its kind. -/
theorem open_told (hv : Value.okWide Tryd.prog W r b0 68 v) (h : DataW.Trod enc Tryd.prog W base spare held 68 v d p) :
    ∃ (z : Int) (s e : Nat) (C V : BitVec 64), v = .agg #[.int .i64 z, .int .u32 (s : Int), .int .u32 (e : Int), .int .u64 (n64 C), .int .u64 (n64 V)] ∧ s < 4294967296 ∧ e < 4294967296 := by
  obtain ⟨cs, rfl, hsz⟩ := okWide_struct Tryd.underlying68 hv
  have h5 : Tryd.prog.cellsOf 68 = 5 := by kernel_rfl
  have o3 : Tryd.prog.cellsOf 3 = 1 := by kernel_rfl
  have o62 : Tryd.prog.cellsOf 62 = 1 := by kernel_rfl
  have o49 : Tryd.prog.cellsOf 49 = 1 := by kernel_rfl
  rw [h5] at hsz
  obtain ⟨fuel, hf⟩ := h
  obtain ⟨xs, n, _, _, _, hlen, hg⟩ := DataW.trod_struct Tryd.underlying68 hf
  have hx : ∀ i, i < 5 → ∃ y, xs[i]? = some y := fun i hi => ⟨_, List.getElem?_eq_getElem (by rw [hlen]; exact hi)⟩
  obtain ⟨l⟩ := cs
  match l, hsz with
  | [c0, c1, c2, c3, c4], _ =>
    have g0 := hg 0 _ rfl
    have g1 := hg 1 _ rfl
    have g2 := hg 2 _ rfl
    have g3 := hg 3 _ rfl
    have g4 := hg 4 _ rfl
    obtain ⟨y0, e0⟩ := hx 0 (by decide)
    obtain ⟨y1, e1⟩ := hx 1 (by decide)
    obtain ⟨y2, e2⟩ := hx 2 (by decide)
    obtain ⟨y3, e3⟩ := hx 3 (by decide)
    obtain ⟨y4, e4⟩ := hx 4 (by decide)
    rw [e0] at g0
    rw [e1] at g1
    rw [e2] at g2
    rw [e3] at g3
    rw [e4] at g4
    obtain ⟨z0, hc0, _, _⟩ := DataW.trod_int Tryd.underlying3 g0
    obtain ⟨z1, hc1, _, w1⟩ := DataW.trod_int Tryd.underlying62 g1
    obtain ⟨z2, hc2, _, w2⟩ := DataW.trod_int Tryd.underlying62 g2
    obtain ⟨z3, hc3, _, w3⟩ := DataW.trod_int Tryd.underlying49 g3
    obtain ⟨z4, hc4, _, w4⟩ := DataW.trod_int Tryd.underlying49 g4
    obtain ⟨s, rfl, hs⟩ := lit_u32 w1
    obtain ⟨e, rfl, he⟩ := lit_u32 w2
    obtain ⟨C, rfl⟩ := lit_u64 w3
    obtain ⟨V, rfl⟩ := lit_u64 w4
    injection hc0 with hc0
    injection hc1 with hc1
    injection hc2 with hc2
    injection hc3 with hc3
    injection hc4 with hc4
    subst hc0 hc1 hc2 hc3 hc4
    exact ⟨z0, s, e, C, V, rfl, hs, he⟩
end
end Go.Proofs.YtgejndannlfhkaaDoor
