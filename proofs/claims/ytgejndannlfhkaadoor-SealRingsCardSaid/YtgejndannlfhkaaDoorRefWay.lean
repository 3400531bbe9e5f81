/- The walks of longwireref03.Way and longwireref03.Token. No condition but sizes. -/
import Derived.Test.YtgejndannlfhkaaDoorRef3b
import Derived.Test.YtgejndannlfhkaaDoorWay
import Derived.Test.YtgejndannlfhkaaDoorRelA
namespace Go.Proofs.YtgejndannlfhkaaDoor
open Go Go.RowKit Go.Shelf

set_option maxRecDepth 100000 in
theorem wayF_bad (sec : Value) (z : Int) (hz : z < 0 ∨ 1 < z) (s e c v : Int) (w : World) :
    Calls Tryd.prog 41 #[sec, .int .i64 z, .int .u32 s, .int .u32 e, .int .u64 c, .int .u64 v] w fun e w' => e = .returned (.agg (u8s (zeros 32)).toArray) ∧ Below w.heap.size w w' := by
  obtain ⟨W0, hW0⟩ : ∃ W0 : World, W0 = w.alloc (.cells (u8s (zeros 32)).toArray 23) := ⟨_, rfl⟩
  have hr0 : Row W0 w.heap.size 23 (u8s (zeros 32)).toArray := by rw [hW0]; exact Row.new w _ _
  have hb0 : Below w.heap.size w W0 := by rw [hW0]; exact (Below.refl _ w).alloc (Nat.le_refl _) _
  have HI := Lib.hid (info_arr (zeros 32) (by simp [zeros]))
  have HR0 := Lib.hid hr0
  have HB0 := Lib.hid hb0
  have HW0 := Lib.hid hW0
  clear hr0 hb0 hW0
  rcases hz with hz | hz
  · have z2 : decide (z < 0) = true := by simp; omega
    go_enter Tryd.func41, Tryd.ntmps41
    go_upto_region 2 with (fail)
    change Code.wp _ _ _ _ (w.alloc (.cells (u8s (zeros 32)).toArray 23))
    rw [← HW0.out]
    go_wp2_with ((with_reducible show wpList _ _ _ (⟨none, .store _ _ _, _, _, _, _⟩ :: _) _ _); go_loud (refine wpList_store_self rfl 23 _ _ rfl w.heap.size (u8s (zeros 32)).toArray rfl rfl 23 HR0.out HI.out (u8s_all _) ?_))
    exact bodyPost_ret (results_cell_row rfl _ _ w.heap.size 23 _ (0, 0) _ rfl HR0.out Tryd.underlying23 rfl HI.out) rfl ⟨rfl, HB0.out⟩
  · have z1 : decide (z < 0) = false := by simp; omega
    have z2 : decide (1 < z) = true := by simp; omega
    go_enter Tryd.func41, Tryd.ntmps41
    go_upto_region 2 with (fail)
    change Code.wp _ _ _ _ (w.alloc (.cells (u8s (zeros 32)).toArray 23))
    rw [← HW0.out]
    go_wp2_with ((with_reducible show wpList _ _ _ (⟨none, .store _ _ _, _, _, _, _⟩ :: _) _ _); go_loud (refine wpList_store_self rfl 23 _ _ rfl w.heap.size (u8s (zeros 32)).toArray rfl rfl 23 HR0.out HI.out (u8s_all _) ?_))
    exact bodyPost_ret (results_cell_row rfl _ _ w.heap.size 23 _ (0, 0) _ rfl HR0.out Tryd.underlying23 rfl HI.out) rfl ⟨rfl, HB0.out⟩

/-- A row of the call's own is no row of another type. -/
theorem own_ne {w : World} {base g : Nat} {e t : TypeId} {v : Value} {xs : List Value} {cs : Array Value} (h : OwnV w base e v xs) (hr : Row w g t cs) (hte : t ≠ e) : v.ownBlock ≠ some g := by
  rcases h.2 with ⟨rfl, _⟩ | ⟨g', cap, cur, rfl, _, hh, _⟩
  · simp [Value.ownBlock]
  · intro eq
    simp [Value.ownBlock] at eq
    subst eq
    have := hh.symm.trans hr
    injection this with this
    injection this with h1 h2
    exact hte h2.symm
theorem row_slice {w : World} {g n : Nat} {l : List UInt8} (h : Row w g 5 (u8s l).toArray) (hl : l.length = n) (hn : n ≤ 100) : SliceOf w w.heap.size (.slice (some ⟨g, 0, none⟩) n n) l := by
  subst hl
  exact sliceOf_bytes (bytesIn_row h h.lt) (Nat.le_refl _) (by unfold maxLen; omega)

set_option maxRecDepth 100000 in
set_option maxHeartbeats 4000000 in
theorem wayF_any (sec : List UInt8) (SA : Option Addr) (sn sc : Nat) (way s e : Nat) (C V : BitVec 64) (w : World) (hsec : BytesIn w w.heap.size SA sn sec) (h1 : 1 ≤ sn) (h2 : sn ≤ 64) (hway : way < 2) (hs : s < 4294967296) (he : e < 4294967296) (hsq : Squares w) (hcu : Cubes w) :
    Calls Tryd.prog 41 #[.slice SA sn sc, .int .i64 (way : Int), .int .u32 (s : Int), .int .u32 (e : Int), .int .u64 (n64 C), .int .u64 (n64 V)] w fun e' w' => e' = .returned (.agg (u8s (wayKey sec way s e C.toNat V.toNat)).toArray) ∧ Below w.heap.size w w' := by
  have z1 : (0 : Int) ≤ way := by omega
  have z2 : (way : Int) ≤ 1 := by omega
  have z3 : decide ((way : Int) < 0) = false := by simp
  have z4 : decide (1 < (way : Int)) = false := by simp; omega
  obtain ⟨W0, hW0⟩ : ∃ W0 : World, W0 = w.alloc (.cells (u8s (zeros 32)).toArray 23) := ⟨_, rfl⟩
  have hr0 : Row W0 w.heap.size 23 (u8s (zeros 32)).toArray := by rw [hW0]; exact Row.new w _ _
  have hb0 : Below w.heap.size w W0 := by rw [hW0]; exact (Below.refl _ w).alloc (Nat.le_refl _) _
  have hs0 : W0.heap.size = w.heap.size + 1 := by rw [hW0]; simp
  obtain ⟨out, hout⟩ : ∃ out, out = wayKey sec way s e C.toNat V.toNat := ⟨_, rfl⟩
  have hol : out.length = 32 := by rw [hout]; exact wayKey_length ..
  have HOUT := Lib.hid hout
  have HI := Lib.hid (info_arr out hol)
  have HZ := Lib.hid (zeros32_size out hol)
  have HSEC := Lib.hid hsec
  have HSQ := Lib.hid hsq
  have HCU := Lib.hid hcu
  have HR0 := Lib.hid hr0
  have HB0 := Lib.hid hb0
  have HS0 := Lib.hid hs0
  have HW0 := Lib.hid hW0
  have c1 := (n64_bd C).1
  have c2 := (n64_bd C).2
  have v1 := (n64_bd V).1
  have v2 := (n64_bd V).2
  have HN1 := Lib.hid (fun w => numberF_any way 1 (way : Int) rfl (by omega) (by omega) w)
  clear hsec hsq hcu hr0 hb0 hs0 hW0 hout
  go_enter Tryd.func41, Tryd.ntmps41
  go_upto_region 3 with (fail)
  change Code.wp _ _ _ _ (w.alloc (.cells (u8s (zeros 32)).toArray 23))
  rw [← HW0.out]
  have HO0 : Hid (OwnV W0 W0.heap.size 22 (.slice none 0 0) []) := OwnV.none _ _ _
  have HBB0 : Hid (Below W0.heap.size W0 W0) := Below.refl _ _
  have HN1 := Lib.hid (numberF_any (way) 1 (way : Int) rfl (by omega) (by omega) W0)
  go_wp2_with fail
  refine HN1.out.mono ?_
  rintro e1 u1 ⟨rfl, hr1, hb1⟩
  obtain ⟨g1, hg1⟩ : ∃ g1, g1 = W0.heap.size := ⟨_, rfl⟩
  rw [← hg1] at hr1 ⊢
  have HOu1 : Hid (OwnV (u1.alloc (.cells #[.slice (some ⟨g1, 0, none⟩) 1 1] 22)) W0.heap.size 22 (.slice none 0 0) ([])) := show OwnV _ _ _ _ _ from (HO0.out.below hb1).alloc _
  have HVv1 : Hid (ValsIn (u1.alloc (.cells #[.slice (some ⟨g1, 0, none⟩) 1 1] 22)) (u1.alloc (.cells #[.slice (some ⟨g1, 0, none⟩) 1 1] 22)).heap.size (some ⟨u1.heap.size, 0, none⟩) 1 [.slice (some ⟨g1, 0, none⟩) 1 1]) := ValsIn.of_row (xs := [.slice (some ⟨g1, 0, none⟩) 1 1]) (Row.new u1 _ _) (Row.new u1 22 _).lt
  have HBu1 : Hid (Below W0.heap.size W0 u1) := HBB0.out.trans (hb1.mono HBB0.out.size)
  have hsz1 : W0.heap.size ≤ (u1.alloc (.cells #[.slice (some ⟨g1, 0, none⟩) 1 1] 22)).heap.size := by have := HBu1.out.size; simp; omega
  have HRu1_1 : Hid (Row (u1.alloc (.cells #[.slice (some ⟨g1, 0, none⟩) 1 1] 22)) g1 5 (u8s (be 1 (way))).toArray) := show Row _ _ _ _ from hr1.alloc _
  have HONE1 : Hid (∀ u ∈ [(.slice (some ⟨g1, 0, none⟩) 1 1 : Value)], u.oneCell' = true) := by intro u hu; rw [List.mem_singleton] at hu; rw [hu]; rfl
  clear hr1 hb1 hg1 HN1 HO0 HBB0 
  go_wp2_with ((with_reducible show wpList _ _ _ (⟨some 28, _, _, _, _, _⟩ :: _) _ _); go_loud (refine wpList_append_vals (v := .slice none 0 0) oneCell_sl rfl (.tmp 23) (.tmp 27) rfl rfl HOu1.out rfl HVv1.out HONE1.out (by simp) (by simp) hsz1 ?_); intro B1 d1 y1 hown1 hgrow1 hblk1)
  have HO1 : Hid (OwnV y1 W0.heap.size 22 (.slice B1 1 d1) ([.slice (some ⟨g1, 0, none⟩) 1 1])) := hown1.out
  have HR1_1 : Hid (Row y1 g1 5 (u8s (be 1 (way))).toArray) := show Row _ _ _ _ from HRu1_1.out.of_block (hgrow1.out.block g1 HRu1_1.out.lt (fun e => own_ne HOu1.out HRu1_1.out (by decide) e.symm))
  have HBB1 : Hid (Below W0.heap.size W0 y1) := (HBu1.out.alloc HBu1.out.size _).grown hgrow1.out hsz1 (fun q eq => (HOu1.out.lt q eq).1)
  clear hown1 hgrow1 hblk1 hsz1 HOu1 HVv1 HBu1 HONE1 HRu1_1
  have HN2 := Lib.hid (numberF_any (s) 4 (s : Int) rfl (by omega) (by omega) y1)
  go_wp2_with fail
  refine HN2.out.mono ?_
  rintro e2 u2 ⟨rfl, hr2, hb2⟩
  obtain ⟨g2, hg2⟩ : ∃ g2, g2 = y1.heap.size := ⟨_, rfl⟩
  rw [← hg2] at hr2 ⊢
  have HOu2 : Hid (OwnV (u2.alloc (.cells #[.slice (some ⟨g2, 0, none⟩) 4 4] 22)) W0.heap.size 22 (.slice B1 1 d1) ([.slice (some ⟨g1, 0, none⟩) 1 1])) := show OwnV _ _ _ _ _ from (HO1.out.below hb2).alloc _
  have HVv2 : Hid (ValsIn (u2.alloc (.cells #[.slice (some ⟨g2, 0, none⟩) 4 4] 22)) (u2.alloc (.cells #[.slice (some ⟨g2, 0, none⟩) 4 4] 22)).heap.size (some ⟨u2.heap.size, 0, none⟩) 1 [.slice (some ⟨g2, 0, none⟩) 4 4]) := ValsIn.of_row (xs := [.slice (some ⟨g2, 0, none⟩) 4 4]) (Row.new u2 _ _) (Row.new u2 22 _).lt
  have HBu2 : Hid (Below W0.heap.size W0 u2) := HBB1.out.trans (hb2.mono HBB1.out.size)
  have hsz2 : W0.heap.size ≤ (u2.alloc (.cells #[.slice (some ⟨g2, 0, none⟩) 4 4] 22)).heap.size := by have := HBu2.out.size; simp; omega
  have HRu1_2 : Hid (Row (u2.alloc (.cells #[.slice (some ⟨g2, 0, none⟩) 4 4] 22)) g1 5 (u8s (be 1 (way))).toArray) := show Row _ _ _ _ from (HR1_1.out.below hb2 HR1_1.out.lt).alloc _
  have HRu2_2 : Hid (Row (u2.alloc (.cells #[.slice (some ⟨g2, 0, none⟩) 4 4] 22)) g2 5 (u8s (be 4 (s))).toArray) := show Row _ _ _ _ from hr2.alloc _
  have HONE2 : Hid (∀ u ∈ [(.slice (some ⟨g2, 0, none⟩) 4 4 : Value)], u.oneCell' = true) := by intro u hu; rw [List.mem_singleton] at hu; rw [hu]; rfl
  clear hr2 hb2 hg2 HN2 HO1 HBB1 HR1_1
  go_wp2_with ((with_reducible show wpList _ _ _ (⟨some 34, _, _, _, _, _⟩ :: _) _ _); go_loud (refine wpList_append_vals (v := .slice B1 1 d1) oneCell_sl rfl (.tmp 29) (.tmp 33) rfl rfl HOu2.out rfl HVv2.out HONE2.out (by simp) (by simp) hsz2 ?_); intro B2 d2 y2 hown2 hgrow2 hblk2)
  have HO2 : Hid (OwnV y2 W0.heap.size 22 (.slice B2 2 d2) ([.slice (some ⟨g1, 0, none⟩) 1 1, .slice (some ⟨g2, 0, none⟩) 4 4])) := hown2.out
  have HR1_2 : Hid (Row y2 g1 5 (u8s (be 1 (way))).toArray) := show Row _ _ _ _ from HRu1_2.out.of_block (hgrow2.out.block g1 HRu1_2.out.lt (fun e => own_ne HOu2.out HRu1_2.out (by decide) e.symm))
  have HR2_2 : Hid (Row y2 g2 5 (u8s (be 4 (s))).toArray) := show Row _ _ _ _ from HRu2_2.out.of_block (hgrow2.out.block g2 HRu2_2.out.lt (fun e => own_ne HOu2.out HRu2_2.out (by decide) e.symm))
  have HBB2 : Hid (Below W0.heap.size W0 y2) := (HBu2.out.alloc HBu2.out.size _).grown hgrow2.out hsz2 (fun q eq => (HOu2.out.lt q eq).1)
  clear hown2 hgrow2 hblk2 hsz2 HOu2 HVv2 HBu2 HONE2 HRu1_2 HRu2_2
  have HN3 := Lib.hid (numberF_any (e) 4 (e : Int) rfl (by omega) (by omega) y2)
  go_wp2_with fail
  refine HN3.out.mono ?_
  rintro e3 u3 ⟨rfl, hr3, hb3⟩
  obtain ⟨g3, hg3⟩ : ∃ g3, g3 = y2.heap.size := ⟨_, rfl⟩
  rw [← hg3] at hr3 ⊢
  have HOu3 : Hid (OwnV (u3.alloc (.cells #[.slice (some ⟨g3, 0, none⟩) 4 4] 22)) W0.heap.size 22 (.slice B2 2 d2) ([.slice (some ⟨g1, 0, none⟩) 1 1, .slice (some ⟨g2, 0, none⟩) 4 4])) := show OwnV _ _ _ _ _ from (HO2.out.below hb3).alloc _
  have HVv3 : Hid (ValsIn (u3.alloc (.cells #[.slice (some ⟨g3, 0, none⟩) 4 4] 22)) (u3.alloc (.cells #[.slice (some ⟨g3, 0, none⟩) 4 4] 22)).heap.size (some ⟨u3.heap.size, 0, none⟩) 1 [.slice (some ⟨g3, 0, none⟩) 4 4]) := ValsIn.of_row (xs := [.slice (some ⟨g3, 0, none⟩) 4 4]) (Row.new u3 _ _) (Row.new u3 22 _).lt
  have HBu3 : Hid (Below W0.heap.size W0 u3) := HBB2.out.trans (hb3.mono HBB2.out.size)
  have hsz3 : W0.heap.size ≤ (u3.alloc (.cells #[.slice (some ⟨g3, 0, none⟩) 4 4] 22)).heap.size := by have := HBu3.out.size; simp; omega
  have HRu1_3 : Hid (Row (u3.alloc (.cells #[.slice (some ⟨g3, 0, none⟩) 4 4] 22)) g1 5 (u8s (be 1 (way))).toArray) := show Row _ _ _ _ from (HR1_2.out.below hb3 HR1_2.out.lt).alloc _
  have HRu2_3 : Hid (Row (u3.alloc (.cells #[.slice (some ⟨g3, 0, none⟩) 4 4] 22)) g2 5 (u8s (be 4 (s))).toArray) := show Row _ _ _ _ from (HR2_2.out.below hb3 HR2_2.out.lt).alloc _
  have HRu3_3 : Hid (Row (u3.alloc (.cells #[.slice (some ⟨g3, 0, none⟩) 4 4] 22)) g3 5 (u8s (be 4 (e))).toArray) := show Row _ _ _ _ from hr3.alloc _
  have HONE3 : Hid (∀ u ∈ [(.slice (some ⟨g3, 0, none⟩) 4 4 : Value)], u.oneCell' = true) := by intro u hu; rw [List.mem_singleton] at hu; rw [hu]; rfl
  clear hr3 hb3 hg3 HN3 HO2 HBB2 HR1_2 HR2_2
  go_wp2_with ((with_reducible show wpList _ _ _ (⟨some 40, _, _, _, _, _⟩ :: _) _ _); go_loud (refine wpList_append_vals (v := .slice B2 2 d2) oneCell_sl rfl (.tmp 35) (.tmp 39) rfl rfl HOu3.out rfl HVv3.out HONE3.out (by simp) (by simp) hsz3 ?_); intro B3 d3 y3 hown3 hgrow3 hblk3)
  have HO3 : Hid (OwnV y3 W0.heap.size 22 (.slice B3 3 d3) ([.slice (some ⟨g1, 0, none⟩) 1 1, .slice (some ⟨g2, 0, none⟩) 4 4, .slice (some ⟨g3, 0, none⟩) 4 4])) := hown3.out
  have HR1_3 : Hid (Row y3 g1 5 (u8s (be 1 (way))).toArray) := show Row _ _ _ _ from HRu1_3.out.of_block (hgrow3.out.block g1 HRu1_3.out.lt (fun e => own_ne HOu3.out HRu1_3.out (by decide) e.symm))
  have HR2_3 : Hid (Row y3 g2 5 (u8s (be 4 (s))).toArray) := show Row _ _ _ _ from HRu2_3.out.of_block (hgrow3.out.block g2 HRu2_3.out.lt (fun e => own_ne HOu3.out HRu2_3.out (by decide) e.symm))
  have HR3_3 : Hid (Row y3 g3 5 (u8s (be 4 (e))).toArray) := show Row _ _ _ _ from HRu3_3.out.of_block (hgrow3.out.block g3 HRu3_3.out.lt (fun e => own_ne HOu3.out HRu3_3.out (by decide) e.symm))
  have HBB3 : Hid (Below W0.heap.size W0 y3) := (HBu3.out.alloc HBu3.out.size _).grown hgrow3.out hsz3 (fun q eq => (HOu3.out.lt q eq).1)
  clear hown3 hgrow3 hblk3 hsz3 HOu3 HVv3 HBu3 HONE3 HRu1_3 HRu2_3 HRu3_3
  have HN4 := Lib.hid (numberF_any (C.toNat) 8 (n64 C) rfl (by have := C.isLt; omega) (by omega) y3)
  go_wp2_with fail
  refine HN4.out.mono ?_
  rintro e4 u4 ⟨rfl, hr4, hb4⟩
  obtain ⟨g4, hg4⟩ : ∃ g4, g4 = y3.heap.size := ⟨_, rfl⟩
  rw [← hg4] at hr4 ⊢
  have HOu4 : Hid (OwnV (u4.alloc (.cells #[.slice (some ⟨g4, 0, none⟩) 8 8] 22)) W0.heap.size 22 (.slice B3 3 d3) ([.slice (some ⟨g1, 0, none⟩) 1 1, .slice (some ⟨g2, 0, none⟩) 4 4, .slice (some ⟨g3, 0, none⟩) 4 4])) := show OwnV _ _ _ _ _ from (HO3.out.below hb4).alloc _
  have HVv4 : Hid (ValsIn (u4.alloc (.cells #[.slice (some ⟨g4, 0, none⟩) 8 8] 22)) (u4.alloc (.cells #[.slice (some ⟨g4, 0, none⟩) 8 8] 22)).heap.size (some ⟨u4.heap.size, 0, none⟩) 1 [.slice (some ⟨g4, 0, none⟩) 8 8]) := ValsIn.of_row (xs := [.slice (some ⟨g4, 0, none⟩) 8 8]) (Row.new u4 _ _) (Row.new u4 22 _).lt
  have HBu4 : Hid (Below W0.heap.size W0 u4) := HBB3.out.trans (hb4.mono HBB3.out.size)
  have hsz4 : W0.heap.size ≤ (u4.alloc (.cells #[.slice (some ⟨g4, 0, none⟩) 8 8] 22)).heap.size := by have := HBu4.out.size; simp; omega
  have HRu1_4 : Hid (Row (u4.alloc (.cells #[.slice (some ⟨g4, 0, none⟩) 8 8] 22)) g1 5 (u8s (be 1 (way))).toArray) := show Row _ _ _ _ from (HR1_3.out.below hb4 HR1_3.out.lt).alloc _
  have HRu2_4 : Hid (Row (u4.alloc (.cells #[.slice (some ⟨g4, 0, none⟩) 8 8] 22)) g2 5 (u8s (be 4 (s))).toArray) := show Row _ _ _ _ from (HR2_3.out.below hb4 HR2_3.out.lt).alloc _
  have HRu3_4 : Hid (Row (u4.alloc (.cells #[.slice (some ⟨g4, 0, none⟩) 8 8] 22)) g3 5 (u8s (be 4 (e))).toArray) := show Row _ _ _ _ from (HR3_3.out.below hb4 HR3_3.out.lt).alloc _
  have HRu4_4 : Hid (Row (u4.alloc (.cells #[.slice (some ⟨g4, 0, none⟩) 8 8] 22)) g4 5 (u8s (be 8 (C.toNat))).toArray) := show Row _ _ _ _ from hr4.alloc _
  have HONE4 : Hid (∀ u ∈ [(.slice (some ⟨g4, 0, none⟩) 8 8 : Value)], u.oneCell' = true) := by intro u hu; rw [List.mem_singleton] at hu; rw [hu]; rfl
  clear hr4 hb4 hg4 HN4 HO3 HBB3 HR1_3 HR2_3 HR3_3
  go_wp2_with ((with_reducible show wpList _ _ _ (⟨some 45, _, _, _, _, _⟩ :: _) _ _); go_loud (refine wpList_append_vals (v := .slice B3 3 d3) oneCell_sl rfl (.tmp 41) (.tmp 44) rfl rfl HOu4.out rfl HVv4.out HONE4.out (by simp) (by simp) hsz4 ?_); intro B4 d4 y4 hown4 hgrow4 hblk4)
  have HO4 : Hid (OwnV y4 W0.heap.size 22 (.slice B4 4 d4) ([.slice (some ⟨g1, 0, none⟩) 1 1, .slice (some ⟨g2, 0, none⟩) 4 4, .slice (some ⟨g3, 0, none⟩) 4 4, .slice (some ⟨g4, 0, none⟩) 8 8])) := hown4.out
  have HR1_4 : Hid (Row y4 g1 5 (u8s (be 1 (way))).toArray) := show Row _ _ _ _ from HRu1_4.out.of_block (hgrow4.out.block g1 HRu1_4.out.lt (fun e => own_ne HOu4.out HRu1_4.out (by decide) e.symm))
  have HR2_4 : Hid (Row y4 g2 5 (u8s (be 4 (s))).toArray) := show Row _ _ _ _ from HRu2_4.out.of_block (hgrow4.out.block g2 HRu2_4.out.lt (fun e => own_ne HOu4.out HRu2_4.out (by decide) e.symm))
  have HR3_4 : Hid (Row y4 g3 5 (u8s (be 4 (e))).toArray) := show Row _ _ _ _ from HRu3_4.out.of_block (hgrow4.out.block g3 HRu3_4.out.lt (fun e => own_ne HOu4.out HRu3_4.out (by decide) e.symm))
  have HR4_4 : Hid (Row y4 g4 5 (u8s (be 8 (C.toNat))).toArray) := show Row _ _ _ _ from HRu4_4.out.of_block (hgrow4.out.block g4 HRu4_4.out.lt (fun e => own_ne HOu4.out HRu4_4.out (by decide) e.symm))
  have HBB4 : Hid (Below W0.heap.size W0 y4) := (HBu4.out.alloc HBu4.out.size _).grown hgrow4.out hsz4 (fun q eq => (HOu4.out.lt q eq).1)
  clear hown4 hgrow4 hblk4 hsz4 HOu4 HVv4 HBu4 HONE4 HRu1_4 HRu2_4 HRu3_4 HRu4_4
  have HN5 := Lib.hid (numberF_any (V.toNat) 8 (n64 V) rfl (by have := V.isLt; omega) (by omega) y4)
  go_wp2_with fail
  refine HN5.out.mono ?_
  rintro e5 u5 ⟨rfl, hr5, hb5⟩
  obtain ⟨g5, hg5⟩ : ∃ g5, g5 = y4.heap.size := ⟨_, rfl⟩
  rw [← hg5] at hr5 ⊢
  have HOu5 : Hid (OwnV (u5.alloc (.cells #[.slice (some ⟨g5, 0, none⟩) 8 8] 22)) W0.heap.size 22 (.slice B4 4 d4) ([.slice (some ⟨g1, 0, none⟩) 1 1, .slice (some ⟨g2, 0, none⟩) 4 4, .slice (some ⟨g3, 0, none⟩) 4 4, .slice (some ⟨g4, 0, none⟩) 8 8])) := show OwnV _ _ _ _ _ from (HO4.out.below hb5).alloc _
  have HVv5 : Hid (ValsIn (u5.alloc (.cells #[.slice (some ⟨g5, 0, none⟩) 8 8] 22)) (u5.alloc (.cells #[.slice (some ⟨g5, 0, none⟩) 8 8] 22)).heap.size (some ⟨u5.heap.size, 0, none⟩) 1 [.slice (some ⟨g5, 0, none⟩) 8 8]) := ValsIn.of_row (xs := [.slice (some ⟨g5, 0, none⟩) 8 8]) (Row.new u5 _ _) (Row.new u5 22 _).lt
  have HBu5 : Hid (Below W0.heap.size W0 u5) := HBB4.out.trans (hb5.mono HBB4.out.size)
  have hsz5 : W0.heap.size ≤ (u5.alloc (.cells #[.slice (some ⟨g5, 0, none⟩) 8 8] 22)).heap.size := by have := HBu5.out.size; simp; omega
  have HRu1_5 : Hid (Row (u5.alloc (.cells #[.slice (some ⟨g5, 0, none⟩) 8 8] 22)) g1 5 (u8s (be 1 (way))).toArray) := show Row _ _ _ _ from (HR1_4.out.below hb5 HR1_4.out.lt).alloc _
  have HRu2_5 : Hid (Row (u5.alloc (.cells #[.slice (some ⟨g5, 0, none⟩) 8 8] 22)) g2 5 (u8s (be 4 (s))).toArray) := show Row _ _ _ _ from (HR2_4.out.below hb5 HR2_4.out.lt).alloc _
  have HRu3_5 : Hid (Row (u5.alloc (.cells #[.slice (some ⟨g5, 0, none⟩) 8 8] 22)) g3 5 (u8s (be 4 (e))).toArray) := show Row _ _ _ _ from (HR3_4.out.below hb5 HR3_4.out.lt).alloc _
  have HRu4_5 : Hid (Row (u5.alloc (.cells #[.slice (some ⟨g5, 0, none⟩) 8 8] 22)) g4 5 (u8s (be 8 (C.toNat))).toArray) := show Row _ _ _ _ from (HR4_4.out.below hb5 HR4_4.out.lt).alloc _
  have HRu5_5 : Hid (Row (u5.alloc (.cells #[.slice (some ⟨g5, 0, none⟩) 8 8] 22)) g5 5 (u8s (be 8 (V.toNat))).toArray) := show Row _ _ _ _ from hr5.alloc _
  have HONE5 : Hid (∀ u ∈ [(.slice (some ⟨g5, 0, none⟩) 8 8 : Value)], u.oneCell' = true) := by intro u hu; rw [List.mem_singleton] at hu; rw [hu]; rfl
  clear hr5 hb5 hg5 HN5 HO4 HBB4 HR1_4 HR2_4 HR3_4 HR4_4
  go_wp2_with ((with_reducible show wpList _ _ _ (⟨some 50, _, _, _, _, _⟩ :: _) _ _); go_loud (refine wpList_append_vals (v := .slice B4 4 d4) oneCell_sl rfl (.tmp 46) (.tmp 49) rfl rfl HOu5.out rfl HVv5.out HONE5.out (by simp) (by simp) hsz5 ?_); intro B5 d5 y5 hown5 hgrow5 hblk5)
  have HO5 : Hid (OwnV y5 W0.heap.size 22 (.slice B5 5 d5) ([.slice (some ⟨g1, 0, none⟩) 1 1, .slice (some ⟨g2, 0, none⟩) 4 4, .slice (some ⟨g3, 0, none⟩) 4 4, .slice (some ⟨g4, 0, none⟩) 8 8, .slice (some ⟨g5, 0, none⟩) 8 8])) := hown5.out
  have HR1_5 : Hid (Row y5 g1 5 (u8s (be 1 (way))).toArray) := show Row _ _ _ _ from HRu1_5.out.of_block (hgrow5.out.block g1 HRu1_5.out.lt (fun e => own_ne HOu5.out HRu1_5.out (by decide) e.symm))
  have HR2_5 : Hid (Row y5 g2 5 (u8s (be 4 (s))).toArray) := show Row _ _ _ _ from HRu2_5.out.of_block (hgrow5.out.block g2 HRu2_5.out.lt (fun e => own_ne HOu5.out HRu2_5.out (by decide) e.symm))
  have HR3_5 : Hid (Row y5 g3 5 (u8s (be 4 (e))).toArray) := show Row _ _ _ _ from HRu3_5.out.of_block (hgrow5.out.block g3 HRu3_5.out.lt (fun e => own_ne HOu5.out HRu3_5.out (by decide) e.symm))
  have HR4_5 : Hid (Row y5 g4 5 (u8s (be 8 (C.toNat))).toArray) := show Row _ _ _ _ from HRu4_5.out.of_block (hgrow5.out.block g4 HRu4_5.out.lt (fun e => own_ne HOu5.out HRu4_5.out (by decide) e.symm))
  have HR5_5 : Hid (Row y5 g5 5 (u8s (be 8 (V.toNat))).toArray) := show Row _ _ _ _ from HRu5_5.out.of_block (hgrow5.out.block g5 HRu5_5.out.lt (fun e => own_ne HOu5.out HRu5_5.out (by decide) e.symm))
  have HBB5 : Hid (Below W0.heap.size W0 y5) := (HBu5.out.alloc HBu5.out.size _).grown hgrow5.out hsz5 (fun q eq => (HOu5.out.lt q eq).1)
  clear hown5 hgrow5 hblk5 hsz5 HOu5 HVv5 HBu5 HONE5 HRu1_5 HRu2_5 HRu3_5 HRu4_5 HRu5_5
  have hps : PartsIn y5 y5.heap.size B5 5 (wayParts way s e C.toNat V.toNat) := partsIn_of (OwnV.vals HO5.out) ⟨row_slice HR1_5.out (be_length ..) (by omega), row_slice HR2_5.out (be_length ..) (by omega), row_slice HR3_5.out (be_length ..) (by omega), row_slice HR4_5.out (be_length ..) (by omega), row_slice HR5_5.out (be_length ..) (by omega), trivial⟩
  have hbw : Below w.heap.size w y5 := HB0.out.trans (HBB5.out.mono HB0.out.size)
  have hd := deriveF_ok sec SA sn sc wayS (wayParts way s e C.toNat V.toNat) B5 5 d5 y5 ((HSEC.out.below hbw).more hbw.size) h1 h2 (by decide) hps (laid_way_length ..) (by decide) (HSQ.out.below hbw) (HCU.out.below hbw)
  rw [show hmac sec (laidB wayS (wayParts way s e C.toNat V.toNat)) = out from HOUT.out.symm] at hd
  have HD := Lib.hid hd
  have HR6 : Hid (Row y5 w.heap.size 23 (u8s (zeros 32)).toArray) := HR0.out.below HBB5.out HR0.out.lt
  have HBW := Lib.hid hbw
  clear hps hbw hd HO5 HR1_5 HR2_5 HR3_5 HR4_5 HR5_5 HBB5
  go_wp2_with fail
  refine HD.out.mono ?_
  rintro e7 w7 ⟨rfl, hb7⟩
  have HB7 : Hid (Below w.heap.size w w7) := HBW.out.trans (hb7.mono HBW.out.size)
  have HR7 : Hid (Row (w7.alloc (.cells (u8s out).toArray 23)) w.heap.size 23 (u8s (zeros 32)).toArray) := show Row _ _ _ _ from (HR6.out.below hb7 HR6.out.lt).alloc _
  have HRN : Hid (Row (w7.alloc (.cells (u8s out).toArray 23)) w7.heap.size 23 (u8s out).toArray) := Row.new w7 _ _
  clear hb7 HD HR6
  go_wp2_with (first
    | ((with_reducible show wpList _ _ _ (⟨none, .store _ (.tmp 14) _, _, _, _, _⟩ :: _) _ _); go_loud (refine wpList_store_new rfl 23 _ _ rfl 23 _ (u8s out).toArray rfl rfl HI.out HZ.out (u8s_all _) ?_))
    | ((with_reducible show wpList _ _ _ (⟨some 57, _, _, _, _, _⟩ :: _) _ _); go_loud (refine wpList_load_row rfl 23 _ rfl w7.heap.size rfl 23 _ (0, 0) _ HRN.out Tryd.underlying23 rfl HI.out ?_))
    | ((with_reducible show wpList _ _ _ (⟨none, .store _ (.tmp 12) _, _, _, _, _⟩ :: _) _ _); go_loud (refine wpList_store_row rfl 23 _ _ rfl w.heap.size (u8s out).toArray rfl rfl 23 _ HR7.out HI.out HZ.out (u8s_all _) ?_)))
  exact bodyPost_ret (results_cell_row rfl _ _ w.heap.size 23 _ (0, 0) _ rfl (Row.setRowSame HR7.out _) Tryd.underlying23 rfl HI.out) rfl ⟨(by rw [HOUT.out]), below_setRow (HB7.out.alloc HB7.out.size _) (Nat.le_refl _) _⟩

set_option maxRecDepth 100000 in
set_option maxHeartbeats 4000000 in
theorem tokenF_any (sec : List UInt8) (SA : Option Addr) (sn sc s e : Nat) (w : World) (hsec : BytesIn w w.heap.size SA sn sec) (h1 : 1 ≤ sn) (h2 : sn ≤ 64) (hs : s < 4294967296) (he : e < 4294967296) (hsq : Squares w) (hcu : Cubes w) :
    Calls Tryd.prog 43 #[.slice SA sn sc, .int .u32 (s : Int), .int .u32 (e : Int)] w fun e' w' => e' = .returned (.int .u64 (tokenOf sec s e : Nat)) ∧ Below w.heap.size w w' := by
  have hd := deriveF_ok sec SA sn sc tokenS [] none 0 0 w hsec h1 h2 (by decide) ⟨rfl, fun h => absurd h (by omega)⟩ laid_token_length (by decide) hsq hcu
  obtain ⟨kk, hkk⟩ : ∃ kk, kk = hmac sec (laidB tokenS []) := ⟨_, rfl⟩
  have hkl : kk.length = 32 := by rw [hkk, hmac]; exact sha_length _
  rw [← hkk] at hd
  have HD := Lib.hid hd
  have HKK := Lib.hid hkk
  have HI := Lib.hid (info_arr kk hkl)
  have HZ := Lib.hid (zeros32_size kk hkl)
  have HKL := Lib.hid hkl
  have HSQ := Lib.hid hsq
  have HCU := Lib.hid hcu
  have s1 : (s : Int) < 4294967296 := by omega
  have e1' : (e : Int) < 4294967296 := by omega
  clear hd hkk hkl hsec hsq hcu
  go_enter Tryd.func43, Tryd.ntmps43
  go_wp2_with fail
  refine HD.out.mono ?_
  rintro e0 w1 ⟨rfl, hb1⟩
  obtain ⟨V, hV⟩ : ∃ V : World, V = w1.alloc (.cells (u8s kk).toArray 23) := ⟨_, rfl⟩
  obtain ⟨g7, hg7⟩ : ∃ g7, g7 = w1.heap.size := ⟨_, rfl⟩
  have HRV : Hid (Row V g7 23 (u8s kk).toArray) := show Row _ _ _ _ by rw [hV, hg7]; exact Row.new w1 _ _
  have HBV : Hid (Below w.heap.size w V) := show Below _ _ _ by rw [hV]; exact hb1.alloc hb1.size _
  have HVV := Lib.hid hV
  have HGG := Lib.hid hg7
  clear hV hg7 hb1 HD
  go_wp2_with ((with_reducible show wpList _ _ _ (⟨none, .store _ _ _, _, _, _, _⟩ :: _) _ _); go_loud (refine wpList_store_new rfl 23 _ _ rfl 23 _ (u8s kk).toArray rfl rfl HI.out HZ.out (u8s_all _) ?_))
  rw [← HVV.out, ← HGG.out]
  have htg : ∀ (W : World) (g c : Nat), Grows V W → BytesIn W W.heap.size (some ⟨g, 0, none⟩) 8 (be 4 s ++ be 4 e) → Calls Tryd.prog 26 #[.agg (u8s kk).toArray, .slice (some ⟨g, 0, none⟩) 8 c] W fun e' w' => e' = .returned (.int .u64 (tokenOf sec s e : Nat)) ∧ Below W.heap.size W w' := by
    intro W g c hG hby
    have hb := HBV.out.trans (Below.mono hG HBV.out.size)
    have := tagF_any kk (be 4 s ++ be 4 e) HKL.out (some ⟨g, 0, none⟩) 8 c W hby (by omega) (HSQ.out.below hb) (HCU.out.below hb)
    rw [HKK.out] at this ⊢
    exact this
  have HTG := Lib.hid htg
  clear htg
  refine wp_region_rel [(0, some 16), (1, some 17), (2, some 18), (3, some 19), (4, some 20), (5, some 21), (6, some 22), (7, some 23), (8, some 24), (9, some 6)] [] [] (by kernel_rfl) rfl (by kernel_rfl) rfl ?_
  refine rel_const rfl (.agg (u8s kk).toArray) rfl (fun vs W hC hn => ?_) ?_
  · skip
    refine ⟨rfl, ?_⟩
    simp only [putAll]
    refine run_load_whole (HRV.out.below hC HRV.out.lt) Tryd.underlying23 rfl HI.out rfl ?_
    go_simp
  refine rel_const rfl (.int .u32 (s : Int)) rfl (fun vs W hC hn => ?_) ?_
  · skip
    refine ⟨rfl, ?_⟩
    simp only [putAll]
    go_simp
  refine rel_const rfl (.int .u64 (s : Int)) rfl (fun vs W hC hn => ?_) ?_
  · skip
    have e1 := hn.1 rfl
    refine ⟨rfl, ?_⟩
    simp only [putAll, e1]
    go_simp
    rw [IntKind.wrap_u64]; omega
  refine rel_call rfl (fun v W => ∃ g, v = .slice (some ⟨g, 0, none⟩) 4 4 ∧ V.heap.size ≤ g ∧ Row W g 5 (u8s (be 4 s)).toArray) (by rintro v W1 W2 ⟨g, e, h1, hr⟩ hG; exact ⟨g, e, h1, hr.below hG hr.lt⟩) rfl (fun vs W hC hn => ?_) ?_
  · skip
    have e2 := hn.1 rfl
    refine ⟨61, #[.int .u64 (s : Int), .int .i64 4], rfl, ?_, (numberF_any s 4 (s : Int) rfl (by omega) (by omega) W).mono (by rintro e2 w2 ⟨rfl, hr2, hb2⟩; exact ⟨_, rfl, ⟨W.heap.size, rfl, hC.size, hr2⟩, hb2⟩)⟩
    simp only [putAll, e2]
    go_simp
  refine rel_const rfl (.int .u32 (e : Int)) rfl (fun vs W hC hn => ?_) ?_
  · skip
    refine ⟨rfl, ?_⟩
    simp only [putAll]
    go_simp
  refine rel_const rfl (.int .u64 (e : Int)) rfl (fun vs W hC hn => ?_) ?_
  · skip
    have e4 := hn.1 rfl
    refine ⟨rfl, ?_⟩
    simp only [putAll, e4]
    go_simp
    rw [IntKind.wrap_u64]; omega
  refine rel_call rfl (fun v W => ∃ g, v = .slice (some ⟨g, 0, none⟩) 4 4 ∧ V.heap.size ≤ g ∧ Row W g 5 (u8s (be 4 e)).toArray) (by rintro v W1 W2 ⟨g, e, h1, hr⟩ hG; exact ⟨g, e, h1, hr.below hG hr.lt⟩) rfl (fun vs W hC hn => ?_) ?_
  · skip
    have e5 := hn.1 rfl
    refine ⟨61, #[.int .u64 (e : Int), .int .i64 4], rfl, ?_, (numberF_any e 4 (e : Int) rfl (by omega) (by omega) W).mono (by rintro e2 w2 ⟨rfl, hr2, hb2⟩; exact ⟨_, rfl, ⟨W.heap.size, rfl, hC.size, hr2⟩, hb2⟩)⟩
    simp only [putAll, e5]
    go_simp
  refine rel_append rfl (fun v W => ∃ g c, v = .slice (some ⟨g, 0, none⟩) 8 c ∧ BytesIn W W.heap.size (some ⟨g, 0, none⟩) 8 (be 4 s ++ be 4 e)) (by rintro v W1 W2 ⟨g, c, e, hb⟩ hG; exact ⟨g, c, e, (hb.below hG).more hG.size⟩) rfl rfl (.tmp 19) (.tmp 22) 22 22 rfl (fun vs W hC hn => ?_) ?_
  · skip
    obtain ⟨g3, e3, hg3, hr3⟩ := hn.2.2.2.1 rfl
    obtain ⟨g6, e6, hg6, hr6⟩ := hn.1 rfl
    have hb3 := bytesIn_row hr3 hr3.lt
    have hb6 := bytesIn_row hr6 hr6.lt
    rw [be_length] at hb3 hb6
    obtain ⟨c7, w7, hrun, hg7, hby7, _, _⟩ := run_append_full (w := W) 22 (c := 4) hb3 hb6 (by decide) (by decide) (by decide)
    refine ⟨.slice (some ⟨g3, 0, none⟩) 4 4, .slice (some ⟨g6, 0, none⟩) 4 4, _, w7, ?_, ?_, hrun, ⟨_, c7, rfl, hby7⟩, hg7⟩
    · simp only [putAll, e3, e6]
      go_simp
    · simp only [putAll, e3, e6]
      go_simp
  refine rel_call_const rfl (.int .u64 (tokenOf sec s e : Nat)) 26 rfl (fun vs W hC hn => ?_) ?_
  · skip
    have e0 := hn.2.2.2.2.2.2.2.1 rfl
    obtain ⟨g7, c7, e7, hby7⟩ := hn.1 rfl
    refine ⟨#[.agg (u8s kk).toArray, .slice (some ⟨g7, 0, none⟩) 8 c7], rfl, ?_, HTG.out W g7 c7 hC hby7⟩
    simp only [putAll, e0, e7]
    go_simp
  refine rel_const rfl (.int .u64 (tokenOf sec s e : Nat)) rfl (fun vs W hC hn => ?_) ?_
  · skip
    have e8 := hn.1 rfl
    refine ⟨rfl, ?_⟩
    simp only [putAll, e8]
    go_simp
  refine rel_nil (fun vs W hC hk => ?_)
  have e9 := hk.1
  simp only [putAll, e9]
  go_wp2_with fail
  go_ret
  exact ⟨rfl, HBV.out.trans (Below.mono hC HBV.out.size)⟩
end Go.Proofs.YtgejndannlfhkaaDoor
