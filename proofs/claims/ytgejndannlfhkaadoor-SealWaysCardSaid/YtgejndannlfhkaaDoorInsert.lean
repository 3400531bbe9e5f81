/- The walks of slices.Clone and slices.Insert (one value, at the head) at [][]byte. No condition but sizes. -/
import Derived.Test.YtgejndannlfhkaaDoorSha256
import Derived.Test.YtgejndannlfhkaaDoorVals
import Derived.Lib.Overlaps
import Derived.Laws.CopyOwn
namespace Go.Proofs.YtgejndannlfhkaaDoor
open Go Go.RowKit Go.Shelf

theorem sizeOf_sl (w : World) : (Go.sizeOf 22).run Tryd.prog w = .ok 1 w := by kernel_rfl

/-- What Insert leaves. -/
def Inserted (w : World) (base : Nat) (v : Value) (xs : List Value) (row : Option Nat) (e : Ending) (w' : World) : Prop :=
  ∃ A c, e = .returned (.slice A (xs.length + 1) c) ∧ OwnV w' base 22 (.slice A (xs.length + 1) c) (v :: xs) ∧ w.grownBy w' row

theorem zeros_sl (m : Nat) : Builtin.zeroCells (Value.slice none 0 0).cells m = (List.replicate m (Value.slice none 0 0)).toArray := by
  apply Array.ext
  · simp [Builtin.zeroCells, Value.cells]
  · intro i h1 h2
    simp [Builtin.zeroCells, Value.cells, Nat.mod_one]

set_option maxRecDepth 100000 in
theorem insert_none (A : Option Addr) (c base vb : Nat) (v0 : Value) (w : World) (hown : OwnV w base 22 (.slice A 0 c) []) (hv : Row w vb 22 #[v0]) (h1 : v0.oneCell' = true) (hb : base ≤ w.heap.size) :
    Calls Tryd.prog 52 #[.slice A 0 c, .int .i64 0, .slice (some ⟨vb, 0, none⟩) 1 1] w (Inserted w base v0 [] (Value.slice A 0 c).ownBlock) := by
  have HV : Hid (ValsIn w w.heap.size (some ⟨vb, 0, none⟩) 1 [v0]) := ValsIn.of_row (xs := [v0]) hv hv.lt
  have HO := Lib.hid hown
  have H1 : Hid (∀ u ∈ [v0], u.oneCell' = true) := by intro u hu; rw [List.mem_singleton] at hu; rw [hu]; exact h1
  clear hown hv h1
  go_enter Tryd.func52, Tryd.ntmps52
  go_wp2_with (first | (at_builtin; refine wpList_append_vals oneCell_sl rfl (.tmp 23) (.tmp 24) rfl (v := .slice A 0 c) rfl HO.out rfl HV.out H1.out (by decide) (by decide) hb ?_; intro A' c' w' hown' hgrow' hblk'))
  go_ret
  exact ⟨A', c', rfl, hown'.out, hgrow'.out⟩

theorem shape_row {w : World} {g : Nat} {t : TypeId} {cs : Array Value} (h : Row w g t cs) : w.shape? g = some (t, cs.size) := by
  unfold World.shape?; rw [show w.heap[g]? = _ from h]

theorem size_sl : (Tryd.prog.info? 22).map (·.size) = some 1 := by kernel_rfl

/-- append(s[:0], make([][]byte, n+1)...) beyond what s has: a new block of nil slices. -/
theorem made_grow (g n : Nat) (w : World) (hn : 0 < n) (hn2 : n ≤ 1099511627776) :
    ∃ cap2 W2 cur, (Builtin.append_ #[31, 3] 31 #[.slice (some ⟨g, 0, none⟩) 0 n, .int .i64 ((n + 1 : Nat) : Int)]).run Tryd.prog w = .ok (.slice (some ⟨w.heap.size, 0, none⟩) (n + 1) cap2) W2 ∧
      Row W2 w.heap.size 22 (List.toArray cur) ∧ cur.length = cap2 ∧ n + 1 ≤ cap2 ∧ cap2 ≤ maxLen ∧ w.grownBy W2 none := by
  have hi := oneCell_sl.info
  obtain ⟨i0, hi, hz0, hz1, hz2⟩ := info_parts hi
  have hui := Tryd.underlying3
  have hrun := Lib.run_append_grow_zeros (P := Tryd.prog) w 31 3 31 22 i0 (.slice none 0 0) .i64 .i64 oneCell_sl.sl hui hi hz0 (some ⟨g, 0, none⟩) 0 n [] (by
    have := run_loadCells_list (P := Tryd.prog) w.drew ⟨g, 0, none⟩ [] (by simp)
    simpa [Builtin.firstCells] using this) (n + 1) (by omega) (by omega) (by omega) (by omega) (by rw [hz2]; omega) (by
    rw [hz2]; unfold Builtin.nextslicecap
    split
    · omega
    · split
      · omega
      · have gb : ∀ (r c : Nat), c ≤ 2199023255552 → Builtin.growBy (0 + (n + 1)) r c ≤ 2 * 2199023255552 := by
          intro r
          induction r with
          | zero => intro c hc; simp [Builtin.growBy]; omega
          | succ r ih =>
            intro c hc
            simp only [Builtin.growBy]
            split
            · omega
            · exact ih _ (by omega)
        have := gb 4 n (by omega)
        omega)
  clear hui
  have hge := grownCap_ge w (n + 1) n 22
  refine ⟨_, w.drew.alloc (.cells (List.replicate (grownCap w (n + 1) n 22) (Value.slice none 0 0)).toArray 22), List.replicate (grownCap w (n + 1) n 22) (.slice none 0 0), ?_, ?_, by simp, hge, grownCap_le_maxLen w (n + 1) n 22 (by unfold maxLen; omega), ?_⟩
  · rw [hrun, Nat.zero_add]
    have e : #[] ++ Builtin.zeroCells (Value.slice none 0 0).cells (n + 1) ++ Builtin.zeroCells (Value.slice none 0 0).cells (grownCap w (n + 1) n 22 - (n + 1)) = (List.replicate (grownCap w (n + 1) n 22) (Value.slice none 0 0)).toArray := by
      rw [zeros_sl, zeros_sl, Array.empty_append, List.append_toArray, List.replicate_append_replicate, Nat.add_sub_of_le hge]
    exact congrArg (fun z => Result.ok _ (w.drew.alloc (.cells z 22))) e
  · exact Row.new w.drew _ _
  · exact ⟨rfl, rfl, rfl, by simp, fun k hk _ => Below.heap_alloc w.drew _ k hk⟩

theorem splice_two {cur xs : List Value} {v0 : Value} (h : 1 + xs.length ≤ cur.length) : splice (splice cur 0 [v0]) 1 xs = v0 :: (xs ++ cur.drop (1 + xs.length)) := by
  obtain ⟨c, cs, rfl⟩ : ∃ c cs, cur = c :: cs := by
    cases cur with
    | nil => simp at h
    | cons c cs => exact ⟨c, cs, rfl⟩
  simp [splice, Nat.add_comm 1 xs.length]

theorem insert_own {w5 : World} {g base cap2 : Nat} {cur xs : List Value} {v0 : Value} (hr : Row w5 g 22 (splice (splice cur 0 [v0]) 1 xs).toArray) (hcl : cur.length = cap2) (hc : xs.length + 1 ≤ cap2) (hm : cap2 ≤ maxLen) (hb : base ≤ g) :
    OwnV w5 base 22 (.slice (some ⟨g, 0, none⟩) (xs.length + 1) cap2) (v0 :: xs) := by
  have e := splice_two (v0 := v0) (cur := cur) (xs := xs) (by omega)
  rw [e] at hr
  refine ⟨by simp, .inr ⟨g, cap2, _, rfl, hb, hr, by simpa using hc, hm, ?_, ?_⟩⟩
  · simp; omega
  · simp

set_option maxRecDepth 100000 in
theorem insert_grow (g n base vb : Nat) (v0 : Value) (xs : List Value) (w : World) (hn : 0 < n) (hn2 : n ≤ 1099511627776) (hown : OwnV w base 22 (.slice (some ⟨g, 0, none⟩) n n) xs) (hv : Row w vb 22 #[v0]) (h1 : v0.oneCell' = true)
    (hxs : ∀ u ∈ xs, u.oneCell' = true) (hb : base ≤ w.heap.size) :
    Calls Tryd.prog 52 #[.slice (some ⟨g, 0, none⟩) n n, .int .i64 0, .slice (some ⟨vb, 0, none⟩) 1 1] w (Inserted w base v0 xs none) := by
  obtain ⟨cap2, W2, cur, hrun2, hrow2, hcl, hc2, hcm, hg2⟩ := made_grow g n w hn hn2
  have HO := Lib.hid hown
  have HV := Lib.hid hv
  have HROW := Lib.hid hrow2
  have HG := Lib.hid hg2
  have HCL := Lib.hid hcl
  have HXS := Lib.hid hxs
  clear hown hv hrow2 hg2 hcl hxs
  go_enter Tryd.func52, Tryd.ntmps52
  have hvs : ∀ (j : Nat) (v : Value), [v0][j]? = some v → W2.cell? ((⟨vb, 0, none⟩ : Addr).add j) = some v := by
    intro j v hj
    have hr : Row W2 vb 22 #[v0] := HV.out.of_block (HG.out.block vb HV.out.lt nofun)
    rw [Addr.add_lit, Nat.zero_add, hr.cell j, show (#[v0] : Array Value) = List.toArray [v0] from rfl, List.getElem?_toArray]; exact hj
  have hbel : Below w.heap.size w W2 := ⟨HG.out.os, HG.out.tape, HG.out.output, HG.out.size, fun k hk => HG.out.block k hk nofun⟩
  have HVS := Lib.hid hvs
  have H1 : Hid (∀ u ∈ [v0], u.oneCell' = true) := by intro u hu; rw [List.mem_singleton] at hu; rw [hu]; exact h1
  have HBE := Lib.hid hbel
  clear hvs hbel
  have b1 : (0 : Int) < n := by omega
  have b2 : (n : Int) ≤ 1099511627776 := by omega
  rw [show ((n + 1 : Nat) : Int) = (n : Int) + 1 from rfl] at hrun2
  have HRUN := Lib.hid hrun2
  clear hrun2
  go_wp2_with (first | (at_builtin; refine Lib.wpList_append_run w rfl (.tmp 34) (.tmp 39) 31 3 rfl (.slice (some ⟨g, 0, none⟩) 0 n) (.int .i64 ((n:Int)+1)) rfl rfl _ W2 HRUN.out ?_) | ((with_reducible show wpList _ _ _ (⟨some 45, _, _, _, _, _⟩ :: _) _ _); go_loud (refine wpList_copy_splice rfl (.tmp 43) (.tmp 44) 31 31 rfl 22 Tryd.underlying31 size_sl (some ⟨w.heap.size, 0, none⟩) (some ⟨vb, 0, none⟩) (n + 1) cap2 1 1 rfl rfl w.heap.size 0 cur 22 HROW.out [v0] (by simp <;> omega) (fun _ => ⟨rfl, _, rfl, HVS.out⟩) (by rw [HCL.out]; simp <;> omega) H1.out w.heap.size w HBE.out (Nat.le_refl _) ?_); intro w3 hr3 hb3))
  refine wp_region_quiet_tail_lit 8 (by kernel_rfl) (by kernel_rfl) ?_
  simp only [List.take_succ_cons, List.take_zero, List.drop_succ_cons, List.drop_zero, List.length_singleton]
  go_simp
  repeat (go_big_quiet_step (fail))
  refine wpQuiet_nil ?_
  intro nq
  have hr4 : Hid (Row (w3.drewN nq) w.heap.size 22 (splice cur 0 [v0]).toArray) := hr3.out
  have hb4 : Hid (Below w.heap.size w (w3.drewN nq)) := below_drewN hb3 nq
  clear hr3
  refine wpList_copy_splice rfl (.tmp 50) (.tmp 53) 31 31 rfl 22 Tryd.underlying31 size_sl (some ⟨w.heap.size, 1, none⟩) (some ⟨g, 0, none⟩) n (cap2 - 1) n n rfl rfl w.heap.size 1 (splice cur 0 [v0]) 22 hr4.out xs ?hlen ?hpos ?hfit HXS.out w.heap.size w hb4.out (Nat.le_refl _) ?_
  case hlen => exact HO.out.vals.1.trans (Nat.min_self n).symm
  case hpos =>
    intro _
    obtain ⟨ad, e, _, hc⟩ := (HO.out.vals.below hb4.out).cells hn
    exact ⟨rfl, ad, e, hc⟩
  case hfit =>
    have hl := HO.out.vals.1
    rw [length_splice _ _ _ (by rw [HCL.out]; simp; omega), HCL.out]; omega
  intro w5 hr5 hb5
  go_wp2_with fail
  go_ret
  obtain rfl : n = xs.length := HO.out.vals.1.symm
  refine ⟨some ⟨w.heap.size, 0, none⟩, cap2, rfl, ?_, ⟨hb5.os, hb5.tape, hb5.output, hb5.size, fun k hk _ => hb5.block k hk⟩⟩
  exact insert_own hr5.out HCL.out (by omega) hcm hb
end Go.Proofs.YtgejndannlfhkaaDoor
