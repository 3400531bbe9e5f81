/- The walks of slices.Clone at [][]byte and at []byte. No condition but sizes. -/
import Derived.Test.YtgejndannlfhkaaDoorSha256
import Derived.Test.YtgejndannlfhkaaDoorVals
import Derived.Lib.SliceRun
namespace Go.Proofs.YtgejndannlfhkaaDoor
open Go Go.RowKit Go.Shelf

theorem below_of_grown {w w1 w' : World} {B : Nat} {row : Option Nat} (hb : Below B w w1) (hg : w1.grownBy w' row) (hB : B ≤ w1.heap.size) (hrow : ∀ k, row = some k → B ≤ k) : Below B w w' :=
  ⟨hg.os.trans hb.os, hg.tape.trans hb.tape, hg.output.trans hb.output, Nat.le_trans hb.size hg.size, fun k hk => (hg.block k (by omega) (fun e => by have := hrow k e.symm; omega)).trans (hb.block k hk)⟩

set_option maxRecDepth 100000 in
theorem cloneV_nil (c : Nat) (w : World) : Calls Tryd.prog 53 #[.slice none 0 c] w fun e w' => e = .returned (.slice none 0 0) ∧ w' = w := by
  have q : ∀ (w : World) (a : Option Addr) (n c n' c' : Nat), (binOp .eql 31 (.slice a n c) (.slice none n' c')).run Tryd.prog w = .ok (.bool a.isNone) w := fun w a n c n' c' => Lib.run_eql_slice_nil w _ _ a n c n' c' Tryd.underlying31
  go_enter Tryd.func53, Tryd.ntmps53
  go_wp2_with (fail)
  go_ret
  exact ⟨rfl, rfl⟩

set_option maxRecDepth 100000 in
/-- slices.Clone at [][]byte: a slice of the call's own, of the same elements. -/
theorem cloneV_any (A : Option Addr) (n c B : Nat) (xs : List Value) (w : World) (hv : ValsIn w B A n xs) (h1 : ∀ u ∈ xs, u.oneCell' = true) (hB : B ≤ w.heap.size) (hn : n ≤ 1099511627776) :
    Calls Tryd.prog 53 #[.slice A n c] w fun e w' => ∃ A' c', e = .returned (.slice A' n c') ∧ OwnV w' w.heap.size 22 (.slice A' n c') xs ∧ Below w.heap.size w w' := by
  cases A with
  | none =>
    obtain rfl : n = 0 := by
      by_cases h : 0 < n
      · obtain ⟨g, o, e, _⟩ := hv.2 h
        cases e
      · omega
    obtain rfl : xs = [] := List.eq_nil_of_length_eq_zero hv.1
    refine (cloneV_nil c w).mono ?_
    rintro e w' ⟨rfl, rfl⟩
    exact ⟨none, 0, rfl, OwnV.none _ _ _, Below.refl _ _⟩
  | some ad =>
  have q : ∀ (w : World) (a : Option Addr) (n c n' c' : Nat), (binOp .eql 31 (.slice a n c) (.slice none n' c')).run Tryd.prog w = .ok (.bool a.isNone) w := fun w a n c n' c' => Lib.run_eql_slice_nil w _ _ a n c n' c' Tryd.underlying31
  have HV : Hid (ValsIn (w.alloc (.cells #[] 22)) B (some ad) n xs) := hv.below ((Below.refl B w).alloc hB _)
  have HO : Hid (OwnV (w.alloc (.cells #[] 22)) w.heap.size 22 (.slice (some ⟨w.heap.size, 0, none⟩) 0 0) []) := World.ownsRow_made w #[] 0 (Nat.le_refl _) (Nat.zero_le _) rfl
  have H1 := Lib.hid h1
  clear hv h1
  have hsz : w.heap.size ≤ (w.alloc (.cells #[] 22)).heap.size := by simp
  go_enter Tryd.func53, Tryd.ntmps53
  go_wp2_with (at_builtin; go_loud (refine wpList_append_vals oneCell_sl rfl (.tmp 5) (.tmp 6) rfl (v := .slice (some ⟨w.heap.size, 0, none⟩) 0 0) rfl HO.out rfl HV.out H1.out (by simp <;> omega) (by simp <;> omega) hsz ?_); intro A' c' w' hown' hgrow' hblk')
  go_ret
  refine ⟨A', c', by simp, by simpa using hown'.out, ?_⟩
  exact below_of_grown ((Below.refl _ w).alloc (Nat.le_refl _) _) hgrow'.out hsz (by intro k hk; simp [Value.ownBlock] at hk; omega)

theorem cloneB_nil (c : Nat) (w : World) : Calls Tryd.prog 18 #[.slice none 0 c] w fun e w' => e = .returned (.slice none 0 0) ∧ w' = w := by
  have q : ∀ (w : World) (a : Option Addr) (n c n' c' : Nat), (binOp .eql 22 (.slice a n c) (.slice none n' c')).run Tryd.prog w = .ok (.bool a.isNone) w := fun w a n c n' c' => Lib.run_eql_slice_nil w _ _ a n c n' c' Tryd.underlying22
  go_enter Tryd.func18, Tryd.ntmps18
  go_wp2_with (fail)
  go_ret
  exact ⟨rfl, rfl⟩

set_option maxRecDepth 100000 in
/-- slices.Clone at []byte: a slice of the call's own, of the same bytes. -/
theorem cloneB_any (A : Option Addr) (n c B : Nat) (l : List UInt8) (w : World) (hv : BytesIn w B A n l) (hB : B ≤ w.heap.size) (hn : n ≤ 1099511627776) :
    Calls Tryd.prog 18 #[.slice A n c] w fun e w' => ∃ A' c', e = .returned (.slice A' n c') ∧ OwnB w' w.heap.size (.slice A' n c') l ∧ Below w.heap.size w w' := by
  cases A with
  | none =>
    obtain rfl : n = 0 := by
      by_cases h : 0 < n
      · obtain ⟨g, o, e, _⟩ := hv.2 h
        cases e
      · omega
    obtain rfl : l = [] := List.eq_nil_of_length_eq_zero hv.1
    refine (cloneB_nil c w).mono ?_
    rintro e w' ⟨rfl, rfl⟩
    exact ⟨none, 0, rfl, OwnB.nil _ _, Below.refl _ _⟩
  | some ad =>
  have q : ∀ (w : World) (a : Option Addr) (n c n' c' : Nat), (binOp .eql 22 (.slice a n c) (.slice none n' c')).run Tryd.prog w = .ok (.bool a.isNone) w := fun w a n c n' c' => Lib.run_eql_slice_nil w _ _ a n c n' c' Tryd.underlying22
  have HV : Hid (BytesIn (w.alloc (.cells #[] 5)) B (some ad) n l) := hv.below ((Below.refl B w).alloc hB _)
  have HO : Hid (OwnB (w.alloc (.cells #[] 5)) w.heap.size (.slice (some ⟨w.heap.size, 0, none⟩) 0 0) []) := World.ownsRow_made w #[] 0 (Nat.le_refl _) (Nat.zero_le _) rfl
  clear hv
  have hsz : w.heap.size ≤ (w.alloc (.cells #[] 5)).heap.size := by simp
  go_enter Tryd.func18, Tryd.ntmps18
  go_wp2_with (at_builtin; go_loud (refine wpList_append_bytes (v := .slice (some ⟨w.heap.size, 0, none⟩) 0 0) rfl (.tmp 5) (.tmp 6) rfl rfl HO.out rfl HV.out (by simp <;> omega) hsz ?_); intro A' c' w' hown' hgrow' hblk')
  go_ret
  refine ⟨A', c', by simp, by simpa using hown'.out, ?_⟩
  exact below_of_grown ((Below.refl _ w).alloc (Nat.le_refl _) _) hgrow'.out hsz (by intro k hk; simp [Value.ownBlock] at hk; omega)

end Go.Proofs.YtgejndannlfhkaaDoor
