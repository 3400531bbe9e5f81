/- The walk of slices.Insert at [][]byte where there is room. No condition but sizes. -/
import Derived.Test.YtgejndannlfhkaaDoorInsert
namespace Go.Proofs.YtgejndannlfhkaaDoor
open Go Go.RowKit Go.Shelf

theorem splice_two' {cur xs : List Value} {v0 : Value} (h : 1 + xs.length ≤ cur.length) : splice (splice cur 1 xs) 0 [v0] = v0 :: (xs ++ cur.drop (1 + xs.length)) := by
  obtain ⟨c, cs, rfl⟩ : ∃ c cs, cur = c :: cs := by
    cases cur with
    | nil => simp at h
    | cons c cs => exact ⟨c, cs, rfl⟩
  simp [splice, Nat.add_comm 1 xs.length]

theorem insert_own' {w5 : World} {g base cap2 : Nat} {cur xs : List Value} {v0 : Value} (hr : Row w5 g 22 (splice (splice cur 1 xs) 0 [v0]).toArray) (hcl : cur.length = cap2) (hc : xs.length + 1 ≤ cap2) (hm : cap2 ≤ maxLen) (hb : base ≤ g) :
    OwnV w5 base 22 (.slice (some ⟨g, 0, none⟩) (xs.length + 1) cap2) (v0 :: xs) := by
  have e := splice_two' (v0 := v0) (cur := cur) (xs := xs) (by omega)
  rw [e] at hr
  refine ⟨by simp, .inr ⟨g, cap2, _, rfl, hb, hr, by simpa using hc, hm, ?_, ?_⟩⟩
  · simp; omega
  · simp

theorem grown_setRow {w w1 : World} {g : Nat} (h : w.grownBy w1 (some g)) (cs : Array Value) : w.grownBy (w1.setRow g cs) (some g) :=
  ⟨h.os, h.tape, h.output, by rw [setRow_size]; exact h.size, fun k hk hne => (setRow_other w1 g k cs (fun e => hne (by rw [e]))).trans (h.block k hk hne)⟩

set_option maxRecDepth 100000 in
theorem insert_room (g n c base vb : Nat) (v0 : Value) (xs : List Value) (w : World) (hn : 0 < n) (hc1 : n + 1 ≤ c) (hn2 : n ≤ 1099511627776) (hown : OwnV w base 22 (.slice (some ⟨g, 0, none⟩) n c) xs) (hv : Row w vb 22 #[v0]) (h1 : v0.oneCell' = true)
    (hxs : ∀ u ∈ xs, u.oneCell' = true) (hne : vb ≠ g) :
    Calls Tryd.prog 52 #[.slice (some ⟨g, 0, none⟩) n c, .int .i64 0, .slice (some ⟨vb, 0, none⟩) 1 1] w (Inserted w base v0 xs (some g)) := by
  obtain ⟨cur, hrow, hbg, hcl, hcm, htake⟩ : ∃ cur : List Value, Row w g 22 cur.toArray ∧ base ≤ g ∧ cur.length = c ∧ c ≤ maxLen ∧ cur.take n = xs := by
    rcases hown.2 with ⟨e, _⟩ | ⟨g', cap, cur, e, hb, hg, _, h2, h3, h4⟩
    · injection e with e1; exact absurd e1 (by simp)
    · injection e with e1 e2 e3
      obtain rfl : g' = g := by injection e1 with e1; injection e1 with e1; exact e1.symm
      subst e3
      refine ⟨cur.toList, (show w.heap[g']? = _ by simpa using hg), hb, by simpa using h3, h2, ?_⟩
      rw [← h4, e2]; simp
  have hxl : xs.length = n := by rw [← htake, List.length_take, hcl]; omega
  have hov : ∀ lb cb, (callFunc 76 #[.slice (some ⟨vb, 0, none⟩) 1 1, .slice (some ⟨g, 1, none⟩) lb cb]).run Tryd.prog w = .ok (.value (.bool false)) w := fun lb cb => by
    rw [run_callFunc_extern Tryd.func76 (by kernel_rfl) (by kernel_rfl) (by kernel_rfl) (e := Extern.SlicesOverlaps.overlaps #[31, 31] #[4]) (by kernel_rfl),
      Lib.run_overlaps_apart w 31 4 22 Tryd.underlying31 1 sizeOf_sl ⟨vb, 0, none⟩ ⟨g, 1, none⟩ 1 1 lb cb hne 22 22 1 c (shape_row hv) (by rw [shape_row hrow]; simp [hcl]) (by omega) (hv.free 0) (hv.free 1)]
    rfl
  have HROW := Lib.hid hrow
  have HV := Lib.hid hv
  have HXS := Lib.hid hxs
  have HCL := Lib.hid hcl
  have HT := Lib.hid htake
  have HNE := Lib.hid hne
  have H1 : Hid (∀ u ∈ [v0], u.oneCell' = true) := by intro u hu; rw [List.mem_singleton] at hu; rw [hu]; exact h1
  clear hown hv hrow hcl hxs htake hne
  have b1 : (0 : Int) < n := by omega
  have b2 : (n : Int) ≤ 1099511627776 := by omega
  have b3 : (n : Int) + 1 ≤ c := by omega
  go_enter Tryd.func52, Tryd.ntmps52
  go_wp2_with (simp only [hov])
  refine wp_region_quiet_tail_lit 8 (by kernel_rfl) (by kernel_rfl) ?_
  simp only [List.take_succ_cons, List.take_zero, List.drop_succ_cons, List.drop_zero]
  repeat (go_big_quiet_step (fail))
  refine wpQuiet_nil ?_
  rintro w1 ⟨nq, rfl⟩
  have hr4 : Hid (Row (w.drewN nq) g 22 cur.toArray) := HROW.out
  have hc4 : ∀ (j : Nat) (v : Value), xs[j]? = some v → (w.drewN nq).cell? ((⟨g, 0, none⟩ : Addr).add j) = some v := by
    intro j v hj
    rw [Addr.add_lit, Nat.zero_add, Row.cell hr4.out j, List.getElem?_toArray]
    have ht := HT.out
    rw [← ht, List.getElem?_take] at hj
    split at hj
    · exact hj
    · cases hj
  have HC4 := Lib.hid hc4
  clear hc4
  refine wpList_copy_own rfl (.tmp 73) (.tmp 76) 31 31 rfl 22 Tryd.underlying31 size_sl g 1 n (c - 1) ⟨g, 0, none⟩ (n + 1) c rfl rfl cur.toArray 22 hr4.out xs (hxl.trans (Nat.min_eq_right (by omega)).symm) HC4.out (by have := HCL.out; simp; omega) HXS.out ?_
  generalize hw5 : (w.drewN nq).setRow g _ = w5
  have hr5 : Row w5 g 22 (splice cur 1 xs).toArray := by
    rw [← hw5]
    exact (Row.setRowSame hr4.out _).of_eq (by simp [splice])
  have ho5 : ∀ k, k ≠ g → w5.heap[k]? = w.heap[k]? := fun k hk => by rw [← hw5]; exact setRow_other (w.drewN nq) g k _ hk
  have hv5 : Row w5 vb 22 #[v0] := HV.out.of_block (ho5 vb HNE.out)
  have hg5 : w.grownBy w5 (some g) := by
    rw [← hw5]
    exact grown_setRow (only_drewN (World.grownBy.refl w _) nq) _
  have HR5 := Lib.hid hr5
  have HV5 := Lib.hid hv5
  have HG5 := Lib.hid hg5
  clear hr5 ho5 hv5 hg5 hr4 HC4 HROW HV hw5
  have hv6 : ∀ (j : Nat) (v : Value), [v0][j]? = some v → w5.cell? ((⟨vb, 0, none⟩ : Addr).add j) = some v := by
    intro j v hj
    rw [Addr.add_lit, Nat.zero_add, Row.cell HV5.out j, show (#[v0] : Array Value) = List.toArray [v0] from rfl, List.getElem?_toArray]; exact hj
  have HV6 := Lib.hid hv6
  clear hv6
  go_wp2_with ((with_reducible show wpList _ _ _ (⟨some 82, _, _, _, _, _⟩ :: _) _ _); go_loud (refine wpList_copy_own rfl (.tmp 80) (.tmp 81) 31 31 rfl 22 Tryd.underlying31 size_sl g 0 (n + 1) c ⟨vb, 0, none⟩ 1 1 rfl rfl (splice cur 1 xs).toArray 22 HR5.out [v0] (by simp <;> omega) HV6.out (by have := HCL.out; simp [splice] <;> omega) H1.out ?_))
  go_ret
  have hr6 := Row.setRowSame HR5.out (v0 :: (splice cur 1 xs).tail).toArray
  obtain rfl : n = xs.length := hxl.symm
  refine ⟨some ⟨g, 0, none⟩, c, rfl, ?_, grown_setRow HG5.out _⟩
  exact insert_own' (cur := cur) (hr6.of_eq (by simp [splice])) HCL.out (by omega) hcm hbg
end Go.Proofs.YtgejndannlfhkaaDoor
