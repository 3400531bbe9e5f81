/- The walk of longwirelaw03.SealTags. No condition but sizes. -/
import Derived.Test.YtgejndannlfhkaaDoorWakes
import Derived.Test.YtgejndannlfhkaaDoorSealTag
import Derived.Test.YtgejndannlfhkaaDoorRel
import Derived.Deep.DeepCutAuto
import Derived.Deep.CutRange
import Derived.Maps.RangeWalk
namespace Go.Proofs.YtgejndannlfhkaaDoor
open Go Go.RowKit Go.Shelf

/-- A key brought to 32 bytes. -/
def block32 (l : List UInt8) : List UInt8 := l.take 32 ++ List.replicate (32 - l.length) 0
theorem block32_length (l : List UInt8) : (block32 l).length = 32 := by simp [block32]; omega
theorem splice_block32 (l : List UInt8) : splice (u8s (zeros 32)) 0 (u8s (l.take 32)) = u8s (block32 l) := by
  simp only [splice, List.take_zero, List.nil_append, Nat.zero_add, u8s_length, block32, u8s_append, zeros]
  congr 1
  rw [List.length_take, u8s, u8s, List.map_replicate, List.map_replicate, List.drop_replicate]
  congr 1
  omega

set_option maxRecDepth 100000 in
set_option maxHeartbeats 4000000 in
theorem tags_walk (key b : List UInt8) (KA : Option Addr) (kn kc : Nat) (BA : Option Addr) (bn bc : Nat) (w : World) (hkey : BytesIn w w.heap.size KA kn key) (hb : BytesIn w w.heap.size BA bn b) (hbn : bn ≤ bc) (hbc : bc ≤ maxLen) (hk : Consts w) (hst : Starts w) :
    Calls Tryd.prog 8 #[.slice KA kn kc, .slice BA bn bc] w fun e w' => e = .returned (.bool true) ∧ Below w.heap.size w w' := by
  obtain ⟨W0, hW0⟩ : ∃ W0 : World, W0 = w.alloc (.cells (u8s (zeros 32)).toArray 43) := ⟨_, rfl⟩
  have hb0 : Below w.heap.size w W0 := by rw [hW0]; exact (Below.refl _ w).alloc (Nat.le_refl _) _
  have hr0 : Row W0 w.heap.size 43 (u8s (zeros 32)).toArray := by rw [hW0]; exact Row.new w _ _
  have hpos : 0 < (u8s (key.take 32)).length → some (⟨w.heap.size, 0, none⟩ : Addr) = some ⟨w.heap.size, 0, none⟩ ∧ ∃ ad, KA = some ad ∧ ∀ j v, (u8s (key.take 32))[j]? = some v → W0.cell? (ad.add j) = some v := by
    intro h
    rw [u8s_length, List.length_take] at h
    obtain ⟨ad, e, hbk, hc⟩ := (hkey.below hb0).cells (by have := hkey.1; omega)
    refine ⟨rfl, ad, e, fun j v hj => hc j v ?_⟩
    rw [u8s_getElem?, List.getElem?_take] at hj
    rw [u8s_getElem?]
    split at hj
    · exact hj
    · cases hj
  have HP := Lib.hid hpos
  have HL : Hid ((u8s (key.take 32)).length = Nat.min kn 32) := show _ = _ by rw [u8s_length, List.length_take, hkey.1, Nat.min_comm]
  have HF : Hid (0 + (u8s (key.take 32)).length ≤ (u8s (zeros 32)).length) := show _ ≤ _ by rw [u8s_length, u8s_length, List.length_take, zeros, List.length_replicate]; omega
  have HU : Hid (∀ v ∈ u8s (key.take 32), v.oneCell' = true) := u8s_one _
  have size1 : (Tryd.prog.info? 5).map (·.size) = some 1 := by kernel_rfl
  have HR0 := Lib.hid hr0
  have HB0 := Lib.hid hb0
  have HW0 := Lib.hid hW0
  have HBB0 : Hid (BytesIn w w.heap.size BA (min bn 300) (b.take (min bn 300))) := hb.take _ (by omega)
  have HC := Lib.hid hk
  have HS := Lib.hid hst
  have b1 : (bn : Int) ≤ bc := by omega
  have b2 : (bc : Int) ≤ 9223372036854775807 := by unfold maxLen at hbc; omega
  clear hpos hr0 hb0 hW0 hkey hb hk hst
  go_enter Tryd.func8, Tryd.ntmps8
  go_upto_region 2 with (fail)
  change Code.wp _ _ _ _ (w.alloc (.cells (u8s (zeros 32)).toArray 43))
  rw [← HW0.out]
  go_upto_region 3 with ((with_reducible show wpList _ _ _ (⟨some 12, _, _, _, _, _⟩ :: _) _ _); go_loud (refine wpList_copy_splice rfl (.tmp 10) (.tmp 11) 22 22 rfl 5 Tryd.underlying22 size1 (some ⟨w.heap.size, 0, none⟩) KA 32 32 kn kc rfl rfl w.heap.size 0 (u8s (zeros 32)) 43 HR0.out (u8s (key.take 32)) HL.out HP.out HF.out HU.out w.heap.size w HB0.out (Nat.le_refl _) ?_); intro w3 hr3 hb3)
  have hr4 : Row w3 w.heap.size 43 (u8s (block32 key)).toArray := by
    have := hr3.out
    rw [splice_block32] at this
    exact this
  obtain ⟨kk, hkk⟩ : ∃ kk, kk = block32 key := ⟨_, rfl⟩
  have hkl : kk.length = 32 := by rw [hkk]; exact block32_length _
  rw [← hkk] at hr4
  have HR3 := Lib.hid hr4
  have HB3 := Lib.hid hb3
  clear hr3 hr4 hb3 hkk HP HL HF HU HR0 HB0 HW0
  go_frame
  go_cut [1] (fun s1 wx => s1 = .slice BA (min bn 300) bc ∧ wx = w3)
  case first =>
    go_wp2_with fail
    · go_meet
      have hm : min bn 300 = 300 := by omega
      rw [hm]; exact ⟨rfl, rfl⟩
    · go_meet
      have hm : min bn 300 = bn := by omega
      rw [hm]; exact ⟨rfl, rfl⟩
  case rest =>
  obtain ⟨rfl, rfl⟩ := hcut
  have hbm1 : min bn 300 ≤ bc := by omega
  have hbm2 : min bn 300 ≤ 300 := by omega
  obtain ⟨bb, hbb⟩ : ∃ bb, bb = b.take (min bn 300) := ⟨_, rfl⟩
  rw [← hbb] at HBB0
  clear hbb b1
  generalize min bn 300 = bm at *
  have HBL : Hid (bb.length = bm) := HBB0.out.1
  have HBB3 : Hid (BytesIn wc wc.heap.size BA bm bb) := (HBB0.out.below HB3.out).more HB3.out.size
  have HC3 : Hid (Consts wc) := HC.out.below HB3.out
  have HS3 : Hid (Starts wc) := HS.out.below HB3.out
  have hmc := hmac_any kk [bb] (some ⟨w.heap.size, 0, none⟩) 32 32 (some ⟨wc.heap.size, 0, none⟩) 1 1 (wc.alloc (.cells #[.slice BA bm bc] 22)) (by
      have h1 := bytesIn_row HR3.out HR3.out.lt
      rw [hkl] at h1
      exact (h1.alloc (Nat.le_refl _) _).more (by simp)) (by omega) (by unfold maxLen; omega) (by omega) (by omega) (partsIn_one HBB3.out hbm1 hbc rfl) (by simp; have := HBL.out; omega) (HC3.out.alloc _) (HS3.out.alloc _)
  rw [show [bb].flatten = bb by simp] at hmc
  obtain ⟨out, hout⟩ : ∃ out, out = hmac kk bb := ⟨_, rfl⟩
  have hol : out.length = 32 := by rw [hout]; exact sha_length _
  rw [← hout] at hmc
  have HMC := Lib.hid hmc
  have HOUT := Lib.hid hout
  clear hmc hout HBB0 HC HS
  go_wp2_with (first | ((with_reducible show wpList _ _ _ (⟨none, .store _ _ _, _, _, _, _⟩ :: _) _ _); go_loud (refine wpList_store_sum rfl _ _ rfl _ out hol rfl rfl rfl ?_)) | (go_at_call 14; go_loud (refine HMC.out.mono ?_); rintro e w4 ⟨rfl, hb4⟩))
  obtain ⟨V, hV⟩ : ∃ V : World, V = w4.alloc (.cells (u8s out).toArray 24) := ⟨_, rfl⟩
  obtain ⟨g6, hg6⟩ : ∃ g6, g6 = w4.heap.size := ⟨_, rfl⟩
  have hb4' : Below wc.heap.size wc w4 := ((Below.refl _ wc).alloc (Nat.le_refl _) _).trans (hb4.mono (by simp))
  have hbV : Below wc.heap.size wc V := by rw [hV]; exact hb4'.alloc hb4'.size _
  have hrh : Row V g6 24 (u8s out).toArray := by rw [hV, hg6]; exact Row.new w4 _ _
  have HRV : Hid (Row V w.heap.size 43 (u8s kk).toArray) := HR3.out.below hbV HR3.out.lt
  have HBB : Hid (BytesIn V V.heap.size BA bm bb) := (HBB3.out.below hbV).more hbV.size
  have HCV : Hid (Consts V) := HC3.out.below hbV
  have HSV : Hid (Starts V) := HS3.out.below hbV
  have HBV : Hid (Below w.heap.size w V) := HB3.out.trans (hbV.mono HB3.out.size)
  have HRH := Lib.hid hrh
  rw [← hV, ← hg6]
  clear hV hg6 hb4 hb4' hbV hrh HR3 HB3 HBB3 HC3 HS3 HMC
  go_loop [7, 24] (fun n i => ∃ k : Nat, k ≤ 8 ∧ i = .int .i64 k ∧ n = .int .u64 (unbe (out.take k) : Nat)) (fun _ i => 8 - (intOf i).toNat)
  case atStart => exact ⟨0, by omega, rfl, rfl⟩
  case round =>
    obtain ⟨k, hk, rfl, rfl⟩ := hrel
    by_cases hlt : k < 8
    · obtain ⟨c, hcc⟩ : ∃ c, c = out.getD k 0 := ⟨_, rfl⟩
      have hck : V.cell? ⟨g6, k, none⟩ = some (.int .u8 (n8 c)) := by rw [hcc, HRH.out.cell, List.getElem?_toArray]; exact u8s_get _ _ (by omega)
      have hbd := unbe_bd (out.take k)
      have hlk : (out.take k).length = k := by rw [List.length_take]; omega
      rw [hlk] at hbd
      have h7 : (256 : Nat) ^ k ≤ 256 ^ 7 := Nat.pow_le_pow_right (by decide) (by omega)
      have hn := push64 (unbe (out.take k)) c (by omega)
      have hs : unbe (out.take (k + 1)) = unbe (out.take k) * 256 + c.toNat := by
        rw [List.take_succ_eq_append_getElem (by omega), unbe_snoc, hcc]; simp [List.getD, show k < out.length by omega]
      have HSU := Lib.hid hs
      have k1 : (k : Int) < 8 := by omega
      have k2 : (0 : Int) ≤ k := by omega
      obtain ⟨n, hnn⟩ : ∃ n, n = unbe (out.take k) := ⟨_, rfl⟩
      rw [← hnn] at hn hbd ⊢
      have HNN := Lib.hid hnn
      have n1 : (n : Int) < 72057594037927936 := by omega
      have c0 := (n8_bd c).1
      have c1' := (n8_bd c).2
      have HPU := Lib.hid hn
      clear hcc hlk h7 hs hnn hbd hn
      go_wp2_with fail
      go_round
      case rel => exact ⟨k + 1, by omega, by go_num, by rw [HPU.out, HSU.out, HNN.out]⟩
      case measure => simp [intOf]; omega
    · obtain rfl : k = 8 := by omega
      obtain ⟨nt, hnt⟩ : ∃ nt, nt = unbe (out.take 8) := ⟨_, rfl⟩
      rw [← hnt]
      have htg : ∀ (W : World) (A : Option Addr) (c : Nat), Grows V W → BytesIn W W.heap.size A bm bb → bm ≤ c → c ≤ maxLen → Calls Tryd.prog 25 #[.agg (u8s kk).toArray, .slice A bm c] W fun e w' => e = .returned (.int .u64 (nt : Nat)) ∧ Below W.heap.size W w' := by
        intro W A c hG hby h1 h2
        have := tag_any kk bb hkl A bm c W hby h1 h2 (by omega) (HCV.out.below hG) (HSV.out.below hG)
        rw [← HOUT.out, ← hnt] at this
        exact this
      have HTG := Lib.hid htg
      have HI : Hid ((Tryd.prog.info? 43).map (·.size) = some (u8s kk).toArray.size) := info_key kk hkl
      clear htg hnt
      go_wp2_with fail
      refine wp_region_rel [(0, some 34), (1, some 35), (2, some 36), (3, some 37), (4, some 38), (5, some 39), (6, some 40), (7, some 41), (8, some 42), (9, some 43), (10, some 44), (11, some 45), (12, some 46), (13, some 47), (14, some 48), (15, some 49), (16, some 4)] [] [] (by kernel_rfl) rfl (by kernel_rfl) rfl ?_
      refine rel_const rfl (.agg (u8s kk).toArray) rfl (fun vs W hC hn => ?_) ?_
      · skip
        refine ⟨rfl, ?_⟩
        simp only [putAll]
        refine run_load_whole (HRV.out.below hC HRV.out.lt) Tryd.underlying43 rfl HI.out rfl ?_
        go_simp
      refine rel_const rfl (.slice BA bm bc) rfl (fun vs W hC hn => ?_) ?_
      · skip
        refine ⟨rfl, ?_⟩
        simp only [putAll]
        go_simp
      refine rel_call_const rfl (.int .u64 (nt : Nat)) 25 rfl (fun vs W hC hn => ?_) ?_
      · skip
        have e0 := hn.2.1 rfl
        have e1 := hn.1 rfl
        refine ⟨#[.agg (u8s kk).toArray, .slice BA bm bc], rfl, ?_, HTG.out W BA bc hC ((HBB.out.below hC).more hC.size) hbm1 hbc⟩
        simp only [putAll, e0, e1]
        go_simp
      refine rel_const rfl (.int .u64 (nt : Nat)) rfl (fun vs W hC hn => ?_) ?_
      · skip
        refine ⟨rfl, ?_⟩
        simp only [putAll]
        go_simp
      refine rel_const rfl (.bool true) rfl (fun vs W hC hn => ?_) ?_
      · skip
        have e2 := hn.2.1 rfl
        have e3 := hn.1 rfl
        refine ⟨rfl, ?_⟩
        simp only [putAll, e2, e3]
        go_simp
      refine rel_const rfl (.bool true) rfl (fun vs W hC hn => ?_) ?_
      · skip
        have e4 := hn.1 rfl
        refine ⟨rfl, ?_⟩
        simp only [putAll, e4]
        go_simp
      refine rel_const rfl (.agg (u8s kk).toArray) rfl (fun vs W hC hn => ?_) ?_
      · skip
        have e5 := hn.1 rfl
        refine ⟨(by simp only [putAll, e5]; go_simp), ?_⟩
        simp only [putAll, e5]
        refine run_load_whole (HRV.out.below hC HRV.out.lt) Tryd.underlying43 rfl HI.out rfl ?_
        go_simp
      refine rel_const rfl (.slice BA bm bc) rfl (fun vs W hC hn => ?_) ?_
      · skip
        have e5 := hn.2.1 rfl
        refine ⟨(by simp only [putAll, e5]; go_simp), ?_⟩
        simp only [putAll, e5]
        go_simp
      refine rel_call rfl (fun v W => ∃ A c, v = .slice A bm c ∧ bm ≤ c ∧ c ≤ maxLen ∧ BytesIn W W.heap.size A bm bb) (by rintro v W1 W2 ⟨A, c, e, h1, h2, h3⟩ hG; exact ⟨A, c, e, h1, h2, (h3.below hG).more hG.size⟩) rfl (fun vs W hC hn => ?_) ?_
      · skip
        have e5 := hn.2.2.1 rfl
        have e7 := hn.1 rfl
        refine ⟨28, #[.slice BA bm bc], (by simp only [putAll, e5, e7]; go_simp), ?_, (bcloneB_any BA bm bc _ bb W ((HBB.out.below hC).more hC.size) (Nat.le_refl _) (by omega)).mono (by rintro e w2 ⟨A, c, rfl, ho, hb⟩; obtain ⟨A', c', e', k1, k2⟩ := ho.form; rw [HBL.out] at e' k1; injection e' with e1 e2 e3; subst e1 e3; exact ⟨_, rfl, ⟨A, c, rfl, k1, k2, ho.bytes⟩, hb⟩)⟩
        simp only [putAll, e5, e7]
        go_simp
      refine rel_call_const rfl (.int .u64 (nt : Nat)) 25 rfl (fun vs W hC hn => ?_) ?_
      · skip
        have e5 := hn.2.2.2.1 rfl
        have e6 := hn.2.2.1 rfl
        obtain ⟨A8, c8, e8, h81, h82, h83⟩ := hn.1 rfl
        refine ⟨#[.agg (u8s kk).toArray, .slice A8 bm c8], (by simp only [putAll, e5, e6, e8]; go_simp), ?_, HTG.out W A8 c8 hC h83 h81 h82⟩
        simp only [putAll, e5, e6, e8]
        go_simp
      refine rel_const rfl (.int .u64 (nt : Nat)) rfl (fun vs W hC hn => ?_) ?_
      · skip
        have e5 := hn.2.2.2.2.1 rfl
        refine ⟨(by simp only [putAll, e5]; go_simp), ?_⟩
        simp only [putAll, e5]
        go_simp
      refine rel_const rfl (.bool true) rfl (fun vs W hC hn => ?_) ?_
      · skip
        have e5 := hn.2.2.2.2.2.1 rfl
        have e9 := hn.2.1 rfl
        have e10 := hn.1 rfl
        refine ⟨(by simp only [putAll, e5, e9, e10]; go_simp), ?_⟩
        simp only [putAll, e5, e9, e10]
        go_simp
      refine rel_const rfl (.bool true) rfl (fun vs W hC hn => ?_) ?_
      · skip
        have e5 := hn.2.2.2.2.2.2.1 rfl
        have e11 := hn.1 rfl
        refine ⟨rfl, ?_⟩
        simp only [putAll, e5, e11]
        go_simp
      refine rel_const rfl (.bool true) rfl (fun vs W hC hn => ?_) ?_
      · skip
        have e12 := hn.1 rfl
        refine ⟨rfl, ?_⟩
        simp only [putAll, e12]
        go_simp
      refine rel_call_const rfl (.bool true) 27 rfl (fun vs W hC hn => ?_) ?_
      · skip
        have e13 := hn.1 rfl
        refine ⟨#[], (by simp only [putAll, e13]; go_simp), ?_, wakes_any W (HCV.out.below hC) (HSV.out.below hC)⟩
        simp only [putAll, e13]
        go_simp
      refine rel_const rfl (.bool true) rfl (fun vs W hC hn => ?_) ?_
      · skip
        have e13 := hn.2.1 rfl
        have e14 := hn.1 rfl
        refine ⟨rfl, ?_⟩
        simp only [putAll, e13, e14]
        go_simp
      refine rel_const rfl (.bool true) rfl (fun vs W hC hn => ?_) ?_
      · skip
        have e15 := hn.1 rfl
        refine ⟨rfl, ?_⟩
        simp only [putAll, e15]
        go_simp
      refine rel_nil (fun vs W hC hk => ?_)
      have e16 := hk.1
      simp only [putAll, e16]
      go_wp2_with fail
      go_ret
      exact ⟨rfl, HBV.out.trans (hC.mono HBV.out.size)⟩
end Go.Proofs.YtgejndannlfhkaaDoor
