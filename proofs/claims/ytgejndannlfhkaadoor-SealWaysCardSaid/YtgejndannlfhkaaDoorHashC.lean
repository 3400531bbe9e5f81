/- The walk of (*hash.state).take. No condition. -/
import Derived.Test.YtgejndannlfhkaaDoorHashB
import Derived.Laws.CopyOwn
namespace Go.Proofs.YtgejndannlfhkaaDoor
open Go Go.RowKit
attribute [local go_sem] n32_add n32_xor n32_and n32_or n32_u8
attribute [local go_sem] n32_not u32_signed
attribute [local go_sem ↓] n32_shl n32_shr

/-- The 64 constants lie in their variable. -/
def Consts (w : World) : Prop := 3 < w.heap.size ∧ ∀ i, i < 64 → w.cell? ⟨3, i, none⟩ = some (.int .u32 (n32 (kList.getD i 0)))
theorem Consts.below {w w' : World} (h : Consts w) (hb : Below w.heap.size w w') : Consts w' :=
  ⟨Nat.lt_of_lt_of_le h.1 hb.size, fun i hi => (hb.cell (p := ⟨3, i, none⟩) h.1).trans (h.2 i hi)⟩

theorem isAgg_u32 (w : World) : (isAgg 62).run Tryd.prog w = .ok false w := by kernel_rfl

set_option maxRecDepth 100000 in
theorem take_any (s : S8) (bs : List UInt8) (sb bb bo cap : Nat) (w : World) (hcap : 64 ≤ cap) (hm : cap ≤ 9223372036854775807) (hb : bb < w.heap.size) (hsb : Row w sb 88 (words s.list))
    (hc : ∀ i, i < 64 → w.cell? ⟨bb, bo + i, none⟩ = some (.int .u8 (n8 (bs.getD i 0)))) (hk : Consts w) :
    Calls Tryd.prog 49 #[.pointer (some ⟨sb, 0, none⟩), .slice (some ⟨bb, bo, none⟩) 64 cap] w fun e w' => e = .returned (.tuple #[]) ∧ Row w' sb 88 (words (s.take bs).list) ∧ w.grownBy w' (some sb) := by
  have HC := Lib.hid hc
  have HS := Lib.hid hsb
  have HK := Lib.hid hk
  clear hc hsb hk
  have hi8 : (Tryd.prog.info? 88).map (·.size) = some (words s.list).size := by rw [words_size]; kernel_rfl
  have HI8 := Lib.hid hi8
  clear hi8
  go_enter Tryd.func49, Tryd.ntmps49
  go_wp2_with (first | (refine wpList_load_row rfl 88 _ rfl sb rfl 88 _ (0, 0) _ HS.out Tryd.underlying88 rfl HI8.out ?_) | (refine wpList_store_new rfl 88 _ _ rfl 88 _ (words s.list) rfl rfl HI8.out (by rw [words_size]; rfl) (words_one _) ?_))
  refine (schedule_any bs bb bo cap _ hcap hm (by simp; omega) (fun i hi => (World.cell?_alloc_lt w _ ⟨bb, bo + i, none⟩ hb).trans (HC.out i hi))).mono ?_
  rintro e w1 ⟨rfl, hb1⟩
  have hX : Row w1 w.heap.size 88 (words s.list) := (Row.new w 88 (words s.list)).below hb1 (by simp)
  have hB : Below w.heap.size w w1 := ((Below.refl _ w).alloc (Nat.le_refl _) _).trans (hb1.mono (by simp))
  have HX := Lib.hid hX
  have HB1 := Lib.hid hB
  clear hX hB hb1
  obtain ⟨ws, hws⟩ : ∃ ws, ws = schedTo bs 64 := ⟨_, rfl⟩
  rw [← hws]
  have hwl : ws.length = 64 := by rw [hws]; exact schedTo_length bs 64
  have HWL := Lib.hid hwl
  have HWS := Lib.hid hws
  clear hwl hws
  go_wp2_with fail
  go_loopw [17] (fun i wr => ∃ t : Nat, t ≤ 64 ∧ i = .int .i64 t ∧ Row wr w.heap.size 88 (words (s.rounds ws t).list) ∧ Below w.heap.size w wr) (fun i _ => 64 - (intOf i).toNat)
  case atStart => exact ⟨0, by omega, rfl, HX.out, HB1.out⟩
  case round =>
    obtain ⟨t, ht, rfl, hrow, hbel⟩ := hrel
    by_cases hlt : t < 64
    · obtain ⟨k, hkk⟩ : ∃ k, k = kList.getD t 0 := ⟨_, rfl⟩
      obtain ⟨x, hxx⟩ : ∃ x, x = ws.getD t 0 := ⟨_, rfl⟩
      obtain ⟨r, hrr⟩ : ∃ r, r = s.rounds ws t := ⟨_, rfl⟩
      have hnext : s.rounds ws (t + 1) = r.round k x := by rw [S8.rounds, ← hkk, ← hxx, ← hrr]
      have hkc : wr.cell? ⟨3, t, none⟩ = some (.int .u32 (n32 k)) := by
        rw [hkk]; exact (hbel.cell (p := ⟨3, t, none⟩) HK.out.1).trans (HK.out.2 t hlt)
      have hix : ∀ W, (Instr.index 119 (.agg (words ws)) (.int .i64 (t : Int))).run Tryd.prog W = .ok (.int .u32 (n32 x)) W := fun W =>
        run_index_agg W 119 62 64 _ _ t _ Tryd.underlying119 (by kernel_rfl) (isAgg_u32 W) hlt (by rw [hxx]; exact words_get ws t (by rw [HWL.out]; exact hlt))
      rw [← hrr] at hrow
      obtain ⟨a, b, c, d, e, f, g, h⟩ := r
      have hx0 : wr.cell? ⟨w.heap.size, 0, none⟩ = some (.int .u32 (n32 a)) := hrow.word (i := 0) (by simp [S8.list])
      have hx1 : wr.cell? ⟨w.heap.size, 1, none⟩ = some (.int .u32 (n32 b)) := hrow.word (i := 1) (by simp [S8.list])
      have hx2 : wr.cell? ⟨w.heap.size, 2, none⟩ = some (.int .u32 (n32 c)) := hrow.word (i := 2) (by simp [S8.list])
      have hx3 : wr.cell? ⟨w.heap.size, 3, none⟩ = some (.int .u32 (n32 d)) := hrow.word (i := 3) (by simp [S8.list])
      have hx4 : wr.cell? ⟨w.heap.size, 4, none⟩ = some (.int .u32 (n32 e)) := hrow.word (i := 4) (by simp [S8.list])
      have hx5 : wr.cell? ⟨w.heap.size, 5, none⟩ = some (.int .u32 (n32 f)) := hrow.word (i := 5) (by simp [S8.list])
      have hx6 : wr.cell? ⟨w.heap.size, 6, none⟩ = some (.int .u32 (n32 g)) := hrow.word (i := 6) (by simp [S8.list])
      have hx7 : wr.cell? ⟨w.heap.size, 7, none⟩ = some (.int .u32 (n32 h)) := hrow.word (i := 7) (by simp [S8.list])
      have HR := Lib.hid hrow
      have HBL := Lib.hid hbel
      have HN := Lib.hid hnext
      clear hrow hbel hnext hrr hkk hxx
      go_wp2_with fail
      go_quiet (fail)
      go_wp2_with fail
      go_quiet ((go_at_call 75; exact quiet_behind (turn_any _ _ _ _ (by decide) (by decide) (by decide) _)))
      go_wp2_with fail
      go_quiet ((go_at_call 75; exact quiet_behind (turn_any _ _ _ _ (by decide) (by decide) (by decide) _)))
      go_wp2_with fail
      generalize hone : h + turnW e 6 11 25 + (e &&& f ^^^ ~~~e &&& g) + k + x = one at *
      generalize htwo : turnW a 2 13 22 + (a &&& b ^^^ a &&& c ^^^ b &&& c) = two at *
      have HONE := Lib.hid hone
      have HTWO := Lib.hid htwo
      clear hone htwo
      refine wp_region_quiet_tail_lit 2 (by kernel_rfl) (by kernel_rfl) ?_
      simp only [List.take_succ_cons, List.take_zero, List.drop_succ_cons, List.drop_zero]
      repeat (go_big_quiet_step (fail))
      refine wpQuiet_nil ?_
      rintro w4 ⟨nq4, hw4⟩
      have HR4 : Hid (Row w4 w.heap.size 88 (words [a, b, c, d, e, f, g, h])) := by rw [hw4]; exact HR.out
      have HB4 : Hid (Below w.heap.size w w4) := by rw [hw4]; exact below_drewN (below_drewN (below_drewN (below_drewN HBL.out _) _) _) _
      clear hw4 hx0 hx1 hx2 hx3 hx4 hx5 hx6 hx7 hkc hix HR HBL
      refine wpList_copy_splice rfl (.tmp 65) (.tmp 66) 93 93 rfl 62 Tryd.underlying93 (by kernel_rfl) _ _ 7 7 7 8 rfl rfl w.heap.size 1 ([a, b, c, d, e, f, g, h].map fun x => Value.int .u32 (n32 x)) 88 HR4.out ([a, b, c, d, e, f, g].map fun x => Value.int .u32 (n32 x)) rfl ?hpos (by simp) (by simp [Value.oneCell']) w.heap.size w HB4.out (Nat.le_refl _) ?_
      case hpos =>
        intro _
        refine ⟨rfl, _, rfl, fun j v hj => ?_⟩
        rw [Addr.add_lit, Nat.zero_add]
        refine (HR4.out.cell j).trans ?_
        have hlt7 : j < 7 := by
          have := (List.getElem?_eq_some_iff.1 hj).1
          simpa using this
        match j, hlt7, hj with
        | 0, _, hj => exact hj
        | 1, _, hj => exact hj
        | 2, _, hj => exact hj
        | 3, _, hj => exact hj
        | 4, _, hj => exact hj
        | 5, _, hj => exact hj
        | 6, _, hj => exact hj
      intro w5 hr5 hb5
      have HR5 : Hid (Row w5 w.heap.size 88 (words [a, a, b, c, d, e, f, g])) := hr5
      have HB5 := Lib.hid hb5
      have hy0 : w5.cell? ⟨w.heap.size, 0, none⟩ = some (.int .u32 (n32 a)) := HR5.out.word (i := 0) (by simp)
      have hy4 : w5.cell? ⟨w.heap.size, 4, none⟩ = some (.int .u32 (n32 d)) := HR5.out.word (i := 4) (by simp)
      have hf0 : w5.frozen? ⟨w.heap.size, 0, none⟩ = false := HR5.out.free 0
      have hf4 : w5.frozen? ⟨w.heap.size, 4, none⟩ = false := HR5.out.free 4
      clear hr5 hb5 HR4 HB4
      go_wp2_with fail
      go_roundw
      case rel =>
        refine ⟨t + 1, by omega, by go_num, ?_, (HB5.out.setCell (p := ⟨w.heap.size, 0, none⟩) (Nat.le_refl _) _).setCell (p := ⟨w.heap.size, 4, none⟩) (Nat.le_refl _) _⟩
        rw [HN.out]
        have := (HR5.out.setWord 0 (one + two)).setWord 4 (d + one)
        rw [← HONE.out, ← HTWO.out] at this ⊢
        exact this
      case measure => simp [intOf]; omega
    · obtain rfl : t = 64 := by omega
      obtain ⟨r, hrr⟩ : ∃ r, r = s.rounds ws 64 := ⟨_, rfl⟩
      rw [← hrr] at hrow
      have HRR := Lib.hid hrr
      have HR := Lib.hid hrow
      have HBL := Lib.hid hbel
      have hsX : sb ≠ w.heap.size := by have := HS.out.lt; omega
      have HSX := Lib.hid hsX
      clear hrow hbel hrr hsX
      go_wp2_with fail
      obtain ⟨wo, rfl⟩ : ∃ wo : World, wo = wr := ⟨_, rfl⟩
      go_loopw [78] (fun i wx => ∃ j : Nat, j ≤ 8 ∧ i = .int .i64 j ∧ Row wx w.heap.size 88 (words r.list) ∧ Row wx sb 88 (words (addTo s.list r.list j)) ∧ w.grownBy wx (some sb)) (fun i _ => 8 - (intOf i).toNat)
      case atStart => exact ⟨0, by omega, rfl, HR.out, HS.out.below HBL.out HS.out.lt, ⟨HBL.out.os, HBL.out.tape, HBL.out.output, HBL.out.size, fun k hk _ => HBL.out.block k hk⟩⟩
      case round =>
        obtain ⟨j, hj, rfl, hrx, hrs, hgr⟩ := hrel
        by_cases hj8 : j < 8
        · obtain ⟨p, hp⟩ : ∃ p, p = (addTo s.list r.list j).getD j 0 := ⟨_, rfl⟩
          obtain ⟨q, hq⟩ : ∃ q, q = r.list.getD j 0 := ⟨_, rfl⟩
          have hlA : (addTo s.list r.list j).length = 8 := by rw [addTo_length]; rfl
          have hcx : wr.cell? ⟨w.heap.size, j, none⟩ = some (.int .u32 (n32 q)) := by rw [hq]; exact hrx.word (by simp [S8.list]; omega)
          have hcs : wr.cell? ⟨sb, j, none⟩ = some (.int .u32 (n32 p)) := by rw [hp]; exact hrs.word (by rw [hlA]; exact hj8)
          have hfs : wr.frozen? ⟨sb, j, none⟩ = false := hrs.free j
          have hnext : addTo s.list r.list (j + 1) = (addTo s.list r.list j).set j (p + q) := by rw [addTo, ← hp, ← hq]
          have HN := Lib.hid hnext
          have HRX := Lib.hid hrx
          have HRS := Lib.hid hrs
          have HG := Lib.hid hgr
          clear hnext hrx hrs hgr hp hq hlA
          go_wp2_with fail
          refine wp_region_quiet_tail_lit 11 (by kernel_rfl) (by kernel_rfl) ?_
          simp only [List.take_succ_cons, List.take_zero, List.drop_succ_cons, List.drop_zero]
          repeat (go_big_quiet_step (fail))
          refine wpQuiet_nil ?_
          rintro w4 ⟨nq4, rfl⟩
          go_wp2_with fail
          go_roundw
          case rel =>
            refine ⟨j + 1, by omega, by go_num, (HRX.out.drewN nq4).other (a := ⟨sb, j, none⟩) (Ne.symm HSX.out) _, ?_, only_setCell (only_drewN HG.out nq4) (.inl rfl) _⟩
            rw [HN.out]
            exact (HRS.out.drewN nq4).setWord j (p + q)
          case measure => simp [intOf]; omega
        · obtain rfl : j = 8 := by omega
          have HRS := Lib.hid hrs
          have HG := Lib.hid hgr
          clear hrx hrs hgr
          go_wp2_with fail
          go_end0
          refine ⟨rfl, ?_, HG.out⟩
          have := HRS.out
          rw [HRR.out, HWS.out, addTo_all] at this
          exact this
end Go.Proofs.YtgejndannlfhkaaDoor
