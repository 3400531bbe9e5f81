/- The walk of hash.schedule. No condition. -/
import Derived.Test.YtgejndannlfhkaaDoorHashA
import Derived.Test.YtgejndannlfhkaaDoorMem
import Derived.Test.YtgejndannlfhkaaDoorFlow
import Derived.Deep.LoopGhost
namespace Go.Proofs.YtgejndannlfhkaaDoor
open Go Go.RowKit
attribute [local go_sem] n32_add n32_xor n32_and n32_or n32_u8
attribute [local go_sem ↓] n32_shl n32_shr
set_option maxRecDepth 100000 in
theorem schedule_any (bs : List UInt8) (bb bo cap : Nat) (w : World) (hcap : 64 ≤ cap) (hm : cap ≤ 9223372036854775807) (hb : bb < w.heap.size)
    (hc : ∀ i, i < 64 → w.cell? ⟨bb, bo + i, none⟩ = some (.int .u8 (n8 (bs.getD i 0)))) :
    Calls Tryd.prog 74 #[.slice (some ⟨bb, bo, none⟩) 64 cap] w fun e w' => e = .returned (.agg (words (schedTo bs 64))) ∧ Below w.heap.size w w' := by
  have HC := Lib.hid hc
  clear hc
  have h0 : Row (w.alloc (.cells (words (schedTo bs 0)) 119)) w.heap.size 119 (words (schedTo bs 0)) := Row.new _ _ _
  have e0 : words (schedTo bs 0) = Array.replicate 64 (.int .u32 0) := by kernel_rfl
  rw [e0] at h0
  have H0 := Lib.hid h0
  clear h0
  go_enter Tryd.func74, Tryd.ntmps74
  go_wp2_with fail
  go_loopw [6] (fun i wr => ∃ t : Nat, t ≤ 64 ∧ i = .int .i64 t ∧ Row wr w.heap.size 119 (words (schedTo bs t)) ∧ Below w.heap.size w wr) (fun i _ => 64 - (intOf i).toNat)
  case atStart => exact ⟨0, by omega, rfl, H0.out, (Below.refl _ _).alloc (Nat.le_refl _) _⟩
  case round =>
    obtain ⟨t, ht, rfl, hrow, hbel⟩ := hrel
    have HR := Lib.hid hrow
    have HB := Lib.hid hbel
    have hlen := schedTo_length bs t
    have HL := Lib.hid hlen
    clear hrow hbel hlen
    by_cases hlt : t < 64
    · by_cases h16 : t < 16
      · go_wp2_with fail
        obtain ⟨wo, rfl⟩ : ∃ wo : World, wo = wr := ⟨_, rfl⟩
        go_loopw [19] (fun j wx => ∃ k : Nat, k ≤ 4 ∧ j = .int .i64 k ∧ Row wx w.heap.size 119 (words ((schedTo bs t).set t (wordTo bs t k))) ∧ Below w.heap.size w wx) (fun j _ => 4 - (intOf j).toNat)
        case atStart => exact ⟨0, by omega, rfl, by rw [wordTo, set_same _ _ (schedTo_zero bs t t (Nat.le_refl _))]; exact HR.out, HB.out⟩
        case round =>
          obtain ⟨k, hk, rfl, hrow, hbel⟩ := hrel
          have HR2 := Lib.hid hrow
          have HB2 := Lib.hid hbel
          by_cases hk4 : k < 4
          · have hcx : wr.cell? ⟨bb, bo + 4 * t + k, none⟩ = some (.int .u8 (n8 (bs.getD (4 * t + k) 0))) := by
              rw [Nat.add_assoc]; exact (hbel.cell (p := ⟨bb, bo + (4 * t + k), none⟩) hb).trans (HC.out _ (by omega))
            obtain ⟨c, hceq⟩ : ∃ c, c = bs.getD (4 * t + k) 0 := ⟨_, rfl⟩
            rw [← hceq] at hcx
            have hwx : wr.cell? ⟨w.heap.size, t, none⟩ = some (.int .u32 (n32 (wordTo bs t k))) := by
              have := hrow.word (i := t) (by simp [HL.out]; omega)
              rw [this]; simp [List.getD, HL.out, hlt]
            have hfx : wr.frozen? ⟨w.heap.size, t, none⟩ = false := hrow.free t
            have HCE := Lib.hid hceq
            clear hceq hrow hbel
            go_wp2_with fail
            go_roundw
            case rel =>
              refine ⟨k + 1, by omega, by go_num, ?_, HB2.out.setCell (p := ⟨w.heap.size, t, none⟩) (Nat.le_refl _) _⟩
              have := HR2.out.setWord t (push8 (wordTo bs t k) c)
              rw [List.set_set] at this
              rw [wordTo, ← HCE.out]
              exact this
            case measure => simp [intOf]; omega
          · obtain rfl : k = 4 := by omega
            clear hrow hbel
            go_wp2_with fail
            go_roundw
            case rel =>
              refine ⟨t + 1, by omega, by go_num, ?_, HB2.out⟩
              rw [schedTo, if_pos h16]
              exact HR2.out
            case measure => simp [intOf]; omega
      · have e1 : t - 16 + 16 = t := by omega
        have hw16 : wr.cell? ⟨w.heap.size, t - 16, none⟩ = some (.int .u32 (n32 ((schedTo bs t).getD (t - 16) 0))) := HR.out.word (by rw [HL.out]; omega)
        have hw7 : wr.cell? ⟨w.heap.size, t - 7, none⟩ = some (.int .u32 (n32 ((schedTo bs t).getD (t - 7) 0))) := HR.out.word (by rw [HL.out]; omega)
        have hw15 : wr.cell? ⟨w.heap.size, t - 15, none⟩ = some (.int .u32 (n32 ((schedTo bs t).getD (t - 15) 0))) := HR.out.word (by rw [HL.out]; omega)
        have hw2 : wr.cell? ⟨w.heap.size, t - 2, none⟩ = some (.int .u32 (n32 ((schedTo bs t).getD (t - 2) 0))) := HR.out.word (by rw [HL.out]; omega)
        have hwt : wr.cell? ⟨w.heap.size, t, none⟩ = some (.int .u32 (n32 ((schedTo bs t).getD t 0))) := HR.out.word (by rw [HL.out]; omega)
        have hft : wr.frozen? ⟨w.heap.size, t, none⟩ = false := HR.out.free t
        have hnext : nextW (schedTo bs t) t = (schedTo bs t).getD (t - 16) 0 + (schedTo bs t).getD (t - 7) 0 + slideW ((schedTo bs t).getD (t - 15) 0) 7 18 3 + slideW ((schedTo bs t).getD (t - 2) 0) 17 19 10 := rfl
        have HN := Lib.hid hnext
        clear hnext e1
        generalize hg16 : (schedTo bs t).getD (t - 16) 0 = x16 at *
        generalize hg7 : (schedTo bs t).getD (t - 7) 0 = x7 at *
        generalize hg15 : (schedTo bs t).getD (t - 15) 0 = x15 at *
        generalize hg2 : (schedTo bs t).getD (t - 2) 0 = x2 at *
        generalize hgt : (schedTo bs t).getD t 0 = xt at *
        clear hg16 hg7 hg15 hg2 hgt
        go_wp2_with fail
        refine wp_region_quiet_tail_lit 23 (by kernel_rfl) (by kernel_rfl) ?_
        simp only [List.take_succ_cons, List.take_zero, List.drop_succ_cons, List.drop_zero]
        repeat (go_big_quiet_step ((go_at_call 80; exact Calls.quiet_of (slide_any _ _ _ _ (by decide) (by decide) (by decide) _))))
        refine wpQuiet_nil ?_
        rintro w1 ⟨nq, rfl⟩
        go_wp2_with fail
        go_roundw
        case rel =>
          refine ⟨t + 1, by omega, by go_num, ?_, (below_drewN HB.out nq).setCell (p := ⟨w.heap.size, t, none⟩) (Nat.le_refl _) _⟩
          have := (HR.out.drewN nq).setWord t (nextW (schedTo bs t) t)
          rw [HN.out] at this
          rw [schedTo, if_neg h16, HN.out]
          exact this
        case measure => simp [intOf]; omega
    · obtain rfl : t = 64 := by omega
      have hi : (Tryd.prog.info? 119).map (·.size) = some (words (schedTo bs 64)).size := by
        rw [words_size, HL.out]; kernel_rfl
      have HI := Lib.hid hi
      clear hi
      go_wp2_with (first | (refine wpList_load_row rfl 119 _ rfl w.heap.size rfl 119 _ (0, 0) _ HR.out Tryd.underlying119 rfl HI.out ?_) | (refine wpList_store_self rfl 119 _ _ rfl w.heap.size (words (schedTo bs 64)) rfl rfl 119 HR.out HI.out (words_one _) ?_))
      exact bodyPost_ret (results_cell_row rfl _ _ w.heap.size 119 _ (0, 0) _ rfl HR.out Tryd.underlying119 rfl HI.out) rfl ⟨rfl, HB.out⟩
end Go.Proofs.YtgejndannlfhkaaDoor
