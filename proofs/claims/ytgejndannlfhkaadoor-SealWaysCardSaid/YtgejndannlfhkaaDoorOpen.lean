/- What came in, read as bytes and as slices of bytes. -/
import Derived.Test.YtgejndannlfhkaaDoorTells
import Derived.Test.YtgejndannlfhkaaDoorCards
import Derived.Test.YtgejndannlfhkaaDoorTie
import Derived.WalkKit
import Derived.ProofKit
import Derived.OpenShut
import Derived.ShutString
import Derived.ChangeOld
import Derived.Below
import Derived.Deep.DeepHandedRow
import Derived.Lib.LaidTab
namespace Go.Proofs.YtgejndannlfhkaaDoor
open Go.ChangeShapes Go.WideShapes Go.ChangeAt Go.RowKit

theorem own : ownKnob Tryd.prog.godebug = none := by kernel_rfl
theorem laidOut : laidOutB Tryd.prog = true := by kernel_rfl

theorem wf_u8 {z : Int} (h : (Lit.int .u8 z).wf = true) : n8 (UInt8.ofNat z.toNat) = z := by
  simp [Lit.wf] at h
  have h1 : (IntKind.u8.min : Int) = 0 := by decide
  have h2 : (IntKind.u8.max : Int) = 255 := by decide
  rw [h1, h2] at h
  unfold n8
  rw [UInt8.toNat_ofNat_of_lt' (by have : UInt8.size = 256 := rfl; omega)]
  omega

section
variable {H : Type} {enc : TypeId × Value → H} {W : World} {spare : Nat → Bool} {held : Bool} {fuel : Nat} {cs : List Value} {x : DataW H × List MemPlace}
/-- A slice of bytes that came in. -/
theorem open_bytesIn (h : DataW.trod enc Tryd.prog W 0 spare held fuel 22 cs = some x) : ∃ A n c l, cs = [.slice A n c] ∧ n ≤ c ∧ c ≤ maxLen ∧ BytesIn W W.heap.size A n l := by
  rcases open_ints Tryd.underlying22 Tryd.underlying5 (by kernel_rfl) h with ⟨hcs, _⟩ | ⟨a, len, cap, zs, hcs, _, hl, hm, hz, _, hcell, hwf⟩
  · exact ⟨none, 0, 0, [], hcs, Nat.le_refl _, Nat.zero_le _, BytesIn.nil _ _ _⟩
  · have hzl : len ≤ zs.length := by rw [hz]; split <;> omega
    refine ⟨some a, len, cap, (zs.take len).map fun z => UInt8.ofNat z.toNat, hcs, hl, hm, by simp; omega, fun hn => ?_⟩
    have h0 := hcell 0 (by omega)
    have hspot : a.spot = none := by simpa [Addr.add] using World.cell?_spot h0
    obtain ⟨g, o, sp⟩ := a
    simp only at hspot
    subst hspot
    have hlt : g < W.heap.size := by
      rcases Nat.lt_or_ge g W.heap.size with h | h
      · exact h
      · simp [World.cell?, Addr.add, Array.getElem?_eq_none h] at h0
    refine ⟨g, o, rfl, hlt, fun i hi => ?_⟩
    have := hcell i (by omega)
    rw [Addr.add_lit] at this
    rw [this]
    have hg : (zs.take len)[i]? = some (zs.getD i 0) := by
      rw [List.getElem?_take, if_pos hi, List.getD, List.getElem?_eq_getElem (show i < zs.length by omega)]; rfl
    simp only [List.getD, List.getElem?_map]
    rw [hg]
    simp only [Option.map_some, Option.getD_some]
    rw [wf_u8 (hwf _ _)]
    · rfl
    · rw [List.getD, List.getElem?_eq_getElem (show i < zs.length by omega)]; exact List.getElem_mem _

/-- A slice of slices of bytes that came in. -/
theorem open_partsIn (h : DataW.trod enc Tryd.prog W 0 spare held fuel 31 cs = some x) : ∃ A n c ps, cs = [.slice A n c] ∧ n ≤ c ∧ c ≤ maxLen ∧ PartsIn W W.heap.size A n ps := by
  rcases DataW.trod_slice Tryd.underlying31 h with ⟨hcs, _⟩ | ⟨a, len, cap, elems, rest, n, _, hcs, _, _, hl, hm, hlen, hel, _, _⟩
  · exact ⟨none, 0, 0, [], hcs, Nat.le_refl _, Nat.zero_le _, rfl, fun h => absurd h (by omega)⟩
  · have c1 : Tryd.prog.cellsOf 22 = 1 := by kernel_rfl
    rw [c1] at hel
    have hone : ∀ i, i < len → ∃ l A' m c, W.cell? (a.add i) = some (.slice A' m c) ∧ m ≤ c ∧ c ≤ maxLen ∧ BytesIn W W.heap.size A' m l := by
      intro i hi
      have h1 := hel i hi
      rw [Nat.mul_one, List.getElem?_eq_getElem (show i < elems.length by omega)] at h1
      obtain ⟨cs', h2, h3⟩ := Option.bind_eq_some_iff.1 h1
      obtain ⟨A', m, c, l, e, k1, k2, k3⟩ := open_bytesIn h3
      subst e
      refine ⟨l, A', m, c, ?_, k1, k2, k3⟩
      simp only [World.cells?, Nat.zero_le, if_true] at h2
      have e0 : (a.add i).add 0 = a.add i := by simp [Addr.add]
      cases hc : W.cell? (a.add i) with
      | none => simp [List.range_succ, e0, hc] at h2
      | some v => simp [List.range_succ, e0, hc] at h2; rw [h2]
    have hall : ∀ i, ∃ l, i < len → ∃ A' m c, W.cell? (a.add i) = some (.slice A' m c) ∧ m ≤ c ∧ c ≤ maxLen ∧ BytesIn W W.heap.size A' m l := by
      intro i
      by_cases hi : i < len
      · obtain ⟨l, A', m, c, h⟩ := hone i hi
        exact ⟨l, fun _ => ⟨A', m, c, h⟩⟩
      · exact ⟨[], fun h => absurd h hi⟩
    obtain ⟨f, hf⟩ := Classical.axiomOfChoice hall
    refine ⟨some a, len, cap, (List.range len).map f, hcs, hl, hm, by simp, fun hn => ?_⟩
    obtain ⟨A0, m0, c0, h0, _⟩ := hf 0 hn
    have hspot : a.spot = none := by simpa [Addr.add] using World.cell?_spot h0
    obtain ⟨g, o, sp⟩ := a
    simp only at hspot
    subst hspot
    have hlt : g < W.heap.size := by
      rcases Nat.lt_or_ge g W.heap.size with h | h
      · exact h
      · simp [World.cell?, Addr.add, Array.getElem?_eq_none h] at h0
    refine ⟨g, o, rfl, hlt, fun i hi => ?_⟩
    obtain ⟨A', m, c, h1, h2, h3, h4⟩ := hf i hi
    rw [Addr.add_lit] at h1
    exact ⟨A', m, c, h1, h2, h3, by simpa [List.getD, hi] using h4⟩
end
end Go.Proofs.YtgejndannlfhkaaDoor
