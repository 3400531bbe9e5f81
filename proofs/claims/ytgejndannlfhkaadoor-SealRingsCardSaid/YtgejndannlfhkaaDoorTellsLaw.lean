/- The walk of longwirelaw02.HashTells. No condition but sizes. -/
import Derived.Test.YtgejndannlfhkaaDoorRefH
import Derived.Test.YtgejndannlfhkaaDoorKeysLaw
namespace Go.Proofs.YtgejndannlfhkaaDoor
open Go Go.RowKit Go.Shelf

set_option maxRecDepth 100000 in
set_option maxHeartbeats 4000000 in
theorem tells_walk (key b : List UInt8) (KA : Option Addr) (kn kc : Nat) (BA : Option Addr) (bn bc : Nat) (w : World) (hkey : BytesIn w w.heap.size KA kn key) (hkn : kn ≤ kc) (hkc : kc ≤ maxLen) (hb : BytesIn w w.heap.size BA bn b) (hbn : bn ≤ bc) (hbc : bc ≤ maxLen) (hk : Consts w) (hst : Starts w) (hsq : Squares w) (hcu : Cubes w) :
    Calls Tryd.prog 3 #[.slice KA kn kc, .slice BA bn bc] w fun e w' => e = .returned (.bool true) ∧ Below w.heap.size w w' := by
  obtain ⟨km, hkm⟩ : ∃ km, km = min kn 150 := ⟨_, rfl⟩
  obtain ⟨bm, hbm⟩ : ∃ bm, bm = min bn 150 := ⟨_, rfl⟩
  have HK : Hid (BytesIn w w.heap.size KA km (key.take km)) := hkey.take _ (by omega)
  have HB : Hid (BytesIn w w.heap.size BA bm (b.take bm)) := hb.take _ (by omega)
  have HC := Lib.hid hk
  have HS := Lib.hid hst
  have HSQ := Lib.hid hsq
  have HCU := Lib.hid hcu
  have HKM := Lib.hid hkm
  have HBM := Lib.hid hbm
  have hkm2 : km ≤ 150 := by omega
  have hbm2 : bm ≤ 150 := by omega
  have b5 : (km : Int) ≤ kc := by omega
  have b6 : (bm : Int) ≤ bc := by omega
  clear hkey hb hk hst hsq hcu hkm hbm
  have b1 : (kn : Int) ≤ kc := by omega
  have b2 : (kc : Int) ≤ 9223372036854775807 := by unfold maxLen at hkc; omega
  have b3 : (bn : Int) ≤ bc := by omega
  have b4 : (bc : Int) ≤ 9223372036854775807 := by unfold maxLen at hbc; omega
  go_enter Tryd.func3, Tryd.ntmps3
  go_wp2_with fail
  refine wp_region_alike (by kernel_rfl) (by kernel_rfl) ?_
  go_simp
  refine q_move (some 7) (.slice KA kn kc) _ rfl rfl rfl rfl ?_
  go_simp
  refine q_move (some 8) (.slice KA kn kc) _ rfl rfl rfl rfl ?_
  go_simp
  refine q_val (some 9) (.int .i64 (kn : Int)) rfl rfl (fun w _ => by go_simp) ?_
  go_simp
  refine q_val (some 10) (.int .i64 (km : Int)) rfl rfl (fun w _ => by go_simp; have := HKM.out; split <;> omega) ?_
  go_simp
  refine q_val (some 11) (.slice KA km kc) rfl rfl (fun w _ => by go_simp) ?_
  go_simp
  refine q_move (some 12) (.slice BA bn bc) _ rfl rfl rfl rfl ?_
  go_simp
  refine q_move (some 13) (.slice BA bn bc) _ rfl rfl rfl rfl ?_
  go_simp
  refine q_val (some 14) (.int .i64 (bn : Int)) rfl rfl (fun w _ => by go_simp) ?_
  go_simp
  refine q_val (some 15) (.int .i64 (bm : Int)) rfl rfl (fun w _ => by go_simp; have := HBM.out; split <;> omega) ?_
  go_simp
  refine q_val (some 16) (.slice BA bm bc) rfl rfl (fun w _ => by go_simp) ?_
  go_simp
  refine q_assign (some 0) (.slice KA km kc) _ rfl rfl rfl rfl ?_
  go_simp
  refine q_assign (some 1) (.slice BA bm bc) _ rfl rfl rfl rfl ?_
  go_simp
  refine wpQuiet_nil ?_
  intro w1 hw1
  have HK1 : Hid (BytesIn w1 w1.heap.size KA km (key.take km)) := (HK.out.below hw1).more hw1.size
  have HB1 : Hid (BytesIn w1 w1.heap.size BA bm (b.take bm)) := (HB.out.below hw1).more hw1.size
  have HC1 : Hid (Consts w1) := HC.out.below hw1
  have HS1 : Hid (Starts w1) := HS.out.below hw1
  have HSQ1 : Hid (Squares w1) := HSQ.out.below hw1
  have HCU1 : Hid (Cubes w1) := HCU.out.below hw1
  have HW1 : Hid (Below w.heap.size w w1) := hw1
  obtain ⟨k1, hk1⟩ : ∃ k1, k1 = key.take km := ⟨_, rfl⟩
  obtain ⟨bb, hbb⟩ : ∃ bb, bb = b.take bm := ⟨_, rfl⟩
  rw [← hk1] at HK1
  rw [← hbb] at HB1
  have hkl : k1.length = km := HK1.out.1
  have hbl : bb.length = bm := HB1.out.1
  have HKL := Lib.hid hkl
  have HBL := Lib.hid hbl
  clear HK HB HC HS HSQ HCU hw1 hk1 hbb hkl hbl HKM HBM
  go_wp2_with (first
    | ((with_reducible show wpList _ _ _ (⟨some 18, _, _, _, _, _⟩ :: _) _ _); refine wpList_append_bytes (v := .slice none 0 0) (l := []) rfl _ (.tmp 17) rfl rfl (OwnB.nil w1 w1.heap.size) rfl HK1.out (by simp; omega) (Nat.le_refl _) ?_; intro A5 c5 w2 hown5 hgrow5 hblk5; rw [List.length_nil, Nat.zero_add]; rw [List.length_nil, Nat.zero_add, List.nil_append] at hown5; have hb2 : Below w1.heap.size w1 w2 := (Below.refl _ _).grown hgrow5.out (Nat.le_refl _) (fun k e => by cases e); have HB2 := Lib.hid hb2; have hs2 := hb2.size; have HBB2 : Hid (BytesIn w2 w1.heap.size BA bm bb) := HB1.out.below hb2; clear hb2)
    | ((with_reducible show wpList _ _ _ (⟨some 20, _, _, _, _, _⟩ :: _) _ _); refine wpList_append_bytes (v := .slice none 0 0) (l := []) rfl _ (.tmp 19) rfl rfl (OwnB.nil w2 w2.heap.size) rfl HBB2.out (by simp; omega) (Nat.le_refl _) ?_; intro A6 c6 w3 hown6 hgrow6 hblk6; rw [List.length_nil, Nat.zero_add]; rw [List.length_nil, Nat.zero_add, List.nil_append] at hown6; have hb3 : Below w2.heap.size w2 w3 := (Below.refl _ _).grown hgrow6.out (Nat.le_refl _) (fun k e => by cases e); have HB3 := Lib.hid hb3; clear hb3))
  have HO6 := hown6
  have HB13 : Hid (Below w1.heap.size w1 w3) := HB2.out.trans (HB3.out.mono hs2)
  have hs3 := HB3.out.size
  have HO5 : Hid (OwnB w3 w1.heap.size (.slice A5 km c5) k1) := show OwnB _ _ _ _ by have := hown5.out; exact this.below HB3.out
  obtain ⟨hc5, hc5m⟩ : km ≤ c5 ∧ c5 ≤ maxLen := by
    obtain ⟨A', c', e, k1', k2'⟩ := HO5.out.form
    injection e with e1 e2 e3
    subst e3; exact ⟨by have := HKL.out; omega, k2'⟩
  obtain ⟨hc6, hc6m⟩ : bm ≤ c6 ∧ c6 ≤ maxLen := by
    obtain ⟨A', c', e, k1', k2'⟩ := HO6.out.form
    injection e with e1 e2 e3
    subst e3; exact ⟨by have := HBL.out; omega, k2'⟩
  clear hown5 hgrow5 hblk5 hown6 hgrow6 hblk6 HBB2 HB2 HB3
  have HK3 : Hid (BytesIn w3 w3.heap.size KA km k1) := (HK1.out.below HB13.out).more HB13.out.size
  have HB3 : Hid (BytesIn w3 w3.heap.size BA bm bb) := (HB1.out.below HB13.out).more HB13.out.size
  have HM5 : Hid (BytesIn w3 w3.heap.size A5 km k1) := HO5.out.bytes
  have HM6 : Hid (BytesIn w3 w3.heap.size A6 bm bb) := HO6.out.bytes
  have HC3 : Hid (Consts w3) := HC1.out.below HB13.out
  have HS3 : Hid (Starts w3) := HS1.out.below HB13.out
  have HSQ3 : Hid (Squares w3) := HSQ1.out.below HB13.out
  have HCU3 : Hid (Cubes w3) := HCU1.out.below HB13.out
  have HW3 : Hid (Below w.heap.size w w3) := HW1.out.trans (HB13.out.mono HW1.out.size)
  clear HK1 HB1 HC1 HS1 HSQ1 HCU1 HO5 HO6 HB13 HW1
  obtain ⟨x, hx⟩ : ∃ x, x = sha bb := ⟨_, rfl⟩
  obtain ⟨y, hy⟩ : ∃ y, y = hmac k1 bb := ⟨_, rfl⟩
  have hxl : x.length = 32 := by rw [hx]; exact sha_length _
  have hyl : y.length = 32 := by rw [hy]; exact sha_length _
  have HX := Lib.hid hx
  have HY := Lib.hid hy
  have HXL := Lib.hid hxl
  have HYL := Lib.hid hyl
  clear hx hy hxl hyl
  have HEX : Hid (∀ w, (binOp .eql 24 (.agg (u8s x).toArray) (.agg (u8s x).toArray)).run Tryd.prog w = .ok (.bool true) w) := fun w => by
    have := run_eql_bytes (P := Tryd.prog) w 24 5 32 Tryd.underlying24 Tryd.underlying5 (fun w => by kernel_rfl) x x HXL.out HXL.out
    rwa [show (x == x) = true by simp] at this
  have HEY : Hid (∀ w, (binOp .eql 24 (.agg (u8s y).toArray) (.agg (u8s y).toArray)).run Tryd.prog w = .ok (.bool true) w) := fun w => by
    have := run_eql_bytes (P := Tryd.prog) w 24 5 32 Tryd.underlying24 Tryd.underlying5 (fun w => by kernel_rfl) y y HYL.out HYL.out
    rwa [show (y == y) = true by simp] at this
  have hsha := sha_any [bb] (some ⟨w3.heap.size, 0, none⟩) 1 1 (w3.alloc (.cells #[.slice A6 bm c6] 22)) (by omega) (partsIn_one HM6.out hc6 hc6m rfl) (by simp; have := HBL.out; omega) (HC3.out.alloc _) (HS3.out.alloc _)
  rw [show [bb].flatten = bb by simp, ← HX.out] at hsha
  have HSH := Lib.hid hsha
  clear hsha
  go_wp2_with fail
  refine HSH.out.mono ?_
  rintro e w4 ⟨rfl, hb4⟩
  have HB4 : Hid (Below w3.heap.size w3 w4) := ((Below.refl _ w3).alloc (Nat.le_refl _) _).trans (hb4.mono (by simp))
  have hrs := refsha_any bb BA bm bc w4 (by omega) ((HB3.out.below HB4.out).more HB4.out.size) (HSQ3.out.below HB4.out) (HCU3.out.below HB4.out)
  rw [← HX.out] at hrs
  have HRS := Lib.hid hrs
  clear hb4 hrs HSH
  go_wp2_with fail
  refine HRS.out.mono ?_
  rintro e w5 ⟨rfl, hb5⟩
  have HB5 : Hid (Below w3.heap.size w3 w5) := HB4.out.trans (hb5.mono HB4.out.size)
  have hmc := hmac_any k1 [bb] A5 km c5 (some ⟨w5.heap.size, 0, none⟩) 1 1 (w5.alloc (.cells #[.slice A6 bm c6] 22)) (((HM5.out.below HB5.out).more HB5.out.size).alloc (Nat.le_refl _) _ |>.more (by simp)) hc5 hc5m (by omega) (by omega) (partsIn_one ((HM6.out.below HB5.out).more HB5.out.size) hc6 hc6m rfl) (by simp; have := HBL.out; omega) ((HC3.out.below HB5.out).alloc _) ((HS3.out.below HB5.out).alloc _)
  rw [show [bb].flatten = bb by simp, ← HY.out] at hmc
  have HMC := Lib.hid hmc
  have hex := HEX.out
  clear hb5 hmc HRS
  go_wp2_with fail
  clear hex
  refine HMC.out.mono ?_
  rintro e w6 ⟨rfl, hb6⟩
  have HB6 : Hid (Below w3.heap.size w3 w6) := (HB5.out.alloc HB5.out.size _).trans (hb6.mono (by have := HB5.out.size; simp; omega))
  have hrh := refhmac_any k1 bb KA km kc BA bm bc w6 ((HK3.out.below HB6.out).more HB6.out.size) (by omega) ((HB3.out.below HB6.out).more HB6.out.size) (by omega) (HSQ3.out.below HB6.out) (HCU3.out.below HB6.out)
  rw [← HY.out] at hrh
  have HRH := Lib.hid hrh
  clear hb6 hrh HMC
  go_wp2_with fail
  refine HRH.out.mono ?_
  rintro e w7 ⟨rfl, hb7⟩
  have HB7 : Hid (Below w3.heap.size w3 w7) := HB6.out.trans (hb7.mono HB6.out.size)
  have s1 := run_str (HM5.out.below HB7.out) c5
  have s2 := run_str (HK3.out.below HB7.out) kc
  have s3 := run_str (HM6.out.below HB7.out) c6
  have s4 := run_str (HB3.out.below HB7.out) bc
  have htl := tells_any w7 (HC3.out.below HB7.out) (HS3.out.below HB7.out)
  have HTL := Lib.hid htl
  have hey := HEY.out
  clear hb7 htl HRH
  go_wp2_with (go_at_call 16; refine HTL.out.mono ?_; rintro e w8 ⟨rfl, hb8⟩; have HB8 := Lib.hid hb8; clear hb8)
  go_ret
  exact ⟨rfl, HW3.out.trans ((HB7.out.trans (HB8.out.mono HB7.out.size)).mono HW3.out.size)⟩
end Go.Proofs.YtgejndannlfhkaaDoor
