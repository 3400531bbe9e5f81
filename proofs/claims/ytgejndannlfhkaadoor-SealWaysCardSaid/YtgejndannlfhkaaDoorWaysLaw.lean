/- The walk of longwirelaw03.SealWays. No condition but sizes. -/
import Derived.Test.YtgejndannlfhkaaDoorWaysK
namespace Go.Proofs.YtgejndannlfhkaaDoor
open Go Go.RowKit Go.Shelf

/-- An operation of one value. -/
theorem wpList_valW {P : Program} {ops : Array Oper} {rest : List Oper} {o : Oper} {a : Act} {w : World} {Q : Exit → Act → World → Prop} (hg : o.guard = none) (v : Value) (hr : (execOp a.eval o).run P w = .ok (.value v) w)
    (h : wpList P ops Q rest (a.put o.dst v) w) : wpList P ops Q (o :: rest) a w :=
  wpList_plain hg fun K hK => by unfold Oper.wp; rw [hr]; exact hK _ _ h

theorem eq_selfW (l : List UInt8) (hl : l.length = 32) (w : World) : (binOp .eql 43 (.agg (u8s l).toArray) (.agg (u8s l).toArray)).run Tryd.prog w = .ok (.bool true) w := by
  have := eql_key l l hl hl w
  rwa [show (l == l) = true by simp] at this

set_option maxRecDepth 100000 in
set_option maxHeartbeats 8000000 in
theorem ways_walk (sec0 : List UInt8) (z : Int) (s e : Nat) (C V : BitVec 64) (SA : Option Addr) (sn sc : Nat) (w : World) (hsec : BytesIn w w.heap.size SA sn sec0) (hsn : sn ≤ sc) (hsc : sc ≤ maxLen) (hs : s < 4294967296) (he : e < 4294967296) (hk : Consts w) (hst : Starts w) :
    Calls Tryd.prog 11 #[.slice SA sn sc, .agg #[.int .i64 z, .int .u32 (s : Int), .int .u32 (e : Int), .int .u64 (n64 C), .int .u64 (n64 V)]] w fun e' w' => e' = .returned (.bool true) ∧ Below w.heap.size w w' := by
  obtain ⟨sm, hsm⟩ : ∃ sm, sm = min sn 63 := ⟨_, rfl⟩
  obtain ⟨sec1, hsc'⟩ : ∃ sec1, sec1 = sec0.take sm := ⟨_, rfl⟩
  have hsmc : sm ≤ sc := by omega
  have hsm63 : sm ≤ 63 := by omega
  have b5 : (sm : Int) ≤ sc := by omega
  have b1 : (sn : Int) ≤ sc := by omega
  have b2 : (sc : Int) ≤ 9223372036854775807 := by unfold maxLen at hsc; omega
  obtain ⟨b3, hb3⟩ : ∃ b3, b3 = w.heap.size := ⟨_, rfl⟩
  obtain ⟨W0, hW0⟩ : ∃ W0 : World, W0 = w.alloc (.cells #[.int .i64 z, .int .u32 (s : Int), .int .u32 (e : Int), .int .u64 (n64 C), .int .u64 (n64 V)] 68) := ⟨_, rfl⟩
  have hbw0 : Below w.heap.size w W0 := by rw [hW0]; exact (Below.refl _ w).alloc (Nat.le_refl _) _
  have HT0 : Hid (Row W0 b3 68 #[.int .i64 z, .int .u32 (s : Int), .int .u32 (e : Int), .int .u64 (n64 C), .int .u64 (n64 V)]) := show Row _ _ _ _ by rw [hW0, hb3]; exact Row.new w _ _
  have hsec1 : BytesIn W0 W0.heap.size SA sm sec1 := by rw [hsc']; exact ((hsec.below hbw0).more hbw0.size).take _ (by omega)
  have HSL : Hid (sec1.length = sm) := hsec1.1
  have HCL := Lib.hid (bcloneB_any SA sm sc W0.heap.size sec1 W0 hsec1 (Nat.le_refl _) (by omega))
  have HC0 : Hid (Consts W0) := hk.below hbw0
  have HS0 : Hid (Starts W0) := hst.below hbw0
  have HBW0 : Hid (Below w.heap.size w W0) := hbw0
  have HSM := Lib.hid hsm
  have HW0 := Lib.hid hW0
  have HB3 := Lib.hid hb3
  clear hsec hk hst hsm hW0 hb3 hsc' hbw0 hsec1
  go_enter Tryd.func11, Tryd.ntmps11
  go_upto_region 1 with (fail)
  rw [← HW0.out, ← HB3.out]
  go_wp2_with ((with_reducible show wpList _ _ _ (⟨some 22, _, _, _, _, _⟩ :: _) _ _); refine wpList_valW rfl (.int .i64 (sm : Int)) (by go_simp; have := HSM.out; split <;> omega) ?_)
  refine HCL.out.mono ?_
  rintro e1 w1 ⟨A1, c1, rfl, hown1, hb1⟩
  have HO1 := Lib.hid hown1
  have HB1 := Lib.hid hb1
  clear hown1 hb1 HCL
  go_wp2_with ((with_reducible show wpList _ _ _ (⟨some 26, _, _, _, _, _⟩ :: _) _ _); refine wpList_append_bytes (v := .slice A1 sm c1) (l := sec1) rfl (.tmp 24) (.tmp 25) rfl rfl (HO1.out.alloc _) rfl (bytesIn_one w1 107) (by have := HSL.out; omega) (by have := HB1.out.size; simp; omega) ?_; intro A5 c5 w2 hown5 hgrow5 hblk5; rw [HSL.out]; rw [HSL.out] at hown5)
  have hb2 : Below W0.heap.size W0 w2 := (HB1.out.alloc HB1.out.size _).grown hgrow5.out (by have := HB1.out.size; simp; omega) (fun q eq => (HO1.out.lt q eq).1)
  have HB2 := Lib.hid hb2
  have hs2 := hb2.size
  clear hgrow5 hblk5 hb2 HW0 HB3 HB1 HO1
  obtain ⟨sec, hsecd⟩ : ∃ sec, sec = sec1 ++ [107] := ⟨_, rfl⟩
  have HSD : Hid (sec.length = sm + 1) := show _ = _ by rw [hsecd, List.length_append, HSL.out]; rfl
  have HO5 : Hid (OwnB w2 W0.heap.size (.slice A5 (sm + 1) c5) sec) := show OwnB _ _ _ _ by rw [hsecd]; exact hown5.out
  have HNC : Hid (sm + 1 ≤ c5 ∧ c5 ≤ maxLen) := show _ ∧ _ by
    obtain ⟨A', c', e, h1, h2⟩ := HO5.out.form
    injection e with e1 e2 e3
    subst e3
    rw [HSD.out] at h1
    exact ⟨h1, h2⟩
  obtain ⟨N, hN⟩ : ∃ N, N = sm + 1 := ⟨_, rfl⟩
  have HN := Lib.hid hN
  rw [← hN] at HSD HO5 HNC ⊢
  have HNW := Lib.hid (ringNew_yes sec A5 N c5 w2 (OwnB.bytes HO5.out) (by omega) (by omega))
  clear hown5 hsecd HSL hN
  go_wp2_with fail
  refine HNW.out.mono ?_
  rintro e6 w3 ⟨g6, rfl, hr3, hb3'⟩
  have HBY3 : Hid (BytesIn w3 w3.heap.size A5 N sec) := show BytesIn _ _ _ _ _ from ((OwnB.bytes HO5.out).below hb3').more hb3'.size
  have HR3 := Lib.hid hr3
  have HB23 : Hid (Below W0.heap.size W0 w3) := HB2.out.trans (hb3'.mono hs2)
  have HNW2 := Lib.hid (ringNew_yes sec A5 N c5 w3 HBY3.out (by have := HN.out; omega) (by have := HN.out; omega))
  clear hr3 hb3' HNW
  go_wp2_with fail
  refine HNW2.out.mono ?_
  rintro e7 w4 ⟨g7, rfl, hr4, hb4⟩
  have HBY4 : Hid (BytesIn w4 w4.heap.size A5 N sec) := show BytesIn _ _ _ _ _ from (HBY3.out.below hb4).more hb4.size
  have HR6 : Hid (RingAt w4 w2.heap.size g6 sec) := HR3.out.below hb4
  have HR7 : Hid (RingAt w4 w3.heap.size g7 sec) := hr4
  have HB4 : Hid (Below W0.heap.size W0 w4) := HB23.out.trans (hb4.mono HB23.out.size)
  clear hr4 hb4 HBY3 HR3 HNW2 HB23 HO5 HB2
  go_upto_region 8 with (fail)
  obtain ⟨b9, hb9⟩ : ∃ b9, b9 = w4.heap.size := ⟨_, rfl⟩
  obtain ⟨W7, hW7⟩ : ∃ W7 : World, W7 = w4.alloc (.cells #[.func (.func 44) #[] #[]] 85) := ⟨_, rfl⟩
  have hb7 : Below w4.heap.size w4 W7 := by rw [hW7]; exact (Below.refl _ _).alloc (Nat.le_refl _) _
  have hb07 : Below W0.heap.size W0 W7 := HB4.out.trans (hb7.mono HB4.out.size)
  have HB07 := Lib.hid hb07
  have HT7 : Hid (Row W7 b3 68 #[.int .i64 z, .int .u32 (s : Int), .int .u32 (e : Int), .int .u64 (n64 C), .int .u64 (n64 V)]) := HT0.out.below hb07 HT0.out.lt
  have HF7 : Hid (b9 < W7.heap.size ∧ W7.cell? ⟨b9, 0, none⟩ = some (.func (.func 44) #[] #[])) := show _ ∧ _ by
    rw [hb9, hW7]; exact ⟨by simp, (Row.new w4 _ _).cell 0⟩
  have HBY7 : Hid (BytesIn W7 W7.heap.size A5 N sec) := show BytesIn _ _ _ _ _ from (HBY4.out.below hb7).more hb7.size
  have HR67 : Hid (RingAt W7 w2.heap.size g6 sec) := HR6.out.below hb7
  have HR77 : Hid (RingAt W7 w3.heap.size g7 sec) := HR7.out.below hb7
  have HC7 : Hid (Consts W7) := HC0.out.below hb07
  have HS7 : Hid (Starts W7) := HS0.out.below hb07
  have m1 : 1 ≤ sec.length := by have := HSD.out; have := HN.out; omega
  have m2 : sec.length ≤ 64 := by have := HSD.out; have := HN.out; omega
  have n1 : 1 ≤ N := by have := HN.out; omega
  have n2 : N ≤ 64 := by have := HN.out; omega
  have nc : N ≤ c5 ∧ c5 ≤ maxLen := HNC.out
  rw [← hW7, ← hb9]
  clear hW7 hb9 hb7 hb07 HBY4 HR6 HR7 HB4 HT0
  go_upto_region 9 with (fail)
  go_loopw [44] (fun i wr => ∃ (k : Nat), k ≤ 2 ∧ i = .int .i64 k ∧ Below W7.heap.size W7 wr) (fun i _ => 2 - (intOf i).toNat)
  case atStart => exact ⟨0, by omega, rfl, Below.refl _ _⟩
  case round =>
    obtain ⟨k, hk, rfl, hbel⟩ := hrel
    have HBE := Lib.hid hbel
    by_cases hlt : k < 2
    · have k1 : (k : Int) < 2 := by omega
      obtain ⟨wk, hwk⟩ : ∃ wk, wk = wayKey sec k s e C.toNat V.toNat := ⟨_, rfl⟩
      have hwl : wk.length = 32 := by rw [hwk]; exact wayKey_length ..
      have HWK := Lib.hid hwk
      have HWL := Lib.hid hwl
      have HIK := Lib.hid (info_key wk hwl)
      have HZK := Lib.hid (zeros32_size wk hwl)
      have HU8 : Hid (IntKind.u8.wrap (k : Int) = n8 (UInt8.ofNat k)) := show _ = _ by rw [wrap_u8, ← n8_ofNat]; omega
      have HT : Hid (Row wr b3 68 #[.int .i64 z, .int .u32 (s : Int), .int .u32 (e : Int), .int .u64 (n64 C), .int .u64 (n64 V)]) := HT7.out.below hbel HT7.out.lt
      have HF : Hid (b9 < wr.heap.size ∧ wr.cell? ⟨b9, 0, none⟩ = some (.func (.func 44) #[] #[])) := show _ ∧ _ from ⟨Nat.lt_of_lt_of_le HF7.out.1 hbel.size, (hbel.cell (p := ⟨b9, 0, none⟩) HF7.out.1).trans HF7.out.2⟩
      have HDW : Hid (∀ W g, GrowsK wr.heap.size wk wr W → PartsIn W W.heap.size (some ⟨g, 0, none⟩) 5 (wayParts k s e C.toNat V.toNat) → Calls Tryd.prog 23 #[.slice A5 N c5, .string wayS, .slice (some ⟨g, 0, none⟩) 5 5] W fun e w' => e = .returned (.tuple #[.agg (u8s wk).toArray, .int .i64 0]) ∧ GrowsK wr.heap.size wk W w') := fun W g hG hp => by
        have hb := HBE.out.trans (hG.below.mono HBE.out.size)
        have h := derive_ok sec A5 N c5 wayS (wayParts k s e C.toNat V.toNat) (some ⟨g, 0, none⟩) 5 5 W ((HBY7.out.below hb).more hb.size) n1 n2 nc.1 nc.2 (by decide) hp (laid_way_length ..) (by decide) (HC7.out.below hb) (HS7.out.below hb)
        refine h.mono fun e w' ⟨h1, h2⟩ => ⟨by rw [h1, HWK.out]; rfl, GrowsK.of h2 hG.below.size⟩
      clear hwk hwl hbel
      go_upto_region 11 with (fail)
      · refine wp_region_relK wr.heap.size wk [(0, some 48), (1, some 49), (2, some 50), (3, some 51), (4, some 52), (5, some 53), (6, some 54), (7, some 55), (8, some 56), (9, some 57), (10, some 58), (11, some 59), (12, some 60), (13, some 61), (14, some 62), (15, some 63), (16, some 64), (17, some 65), (18, some 66), (19, some 67), (20, some 68), (21, some 69), (22, some 47), (23, some 70), (24, some 71), (25, some 12), (26, none), (27, some 13)] (by kernel_rfl) rfl rfl ?_
        refine relV_const (GrowsK.refl _ _) rfl (.slice A5 N c5) rfl (fun vs W hC hn => ?_) ?_
        · skip
          refine ⟨rfl, ?_⟩
          simp only [putAll]
          go_simp
        refine relV_const (GrowsK.refl _ _) rfl (.int .i64 (k : Int)) rfl (fun vs W hC hn => ?_) ?_
        · skip
          refine ⟨rfl, ?_⟩
          simp only [putAll]
          go_simp
        refine relV_const (GrowsK.refl _ _) rfl (.int .u8 (n8 (UInt8.ofNat k))) rfl (fun vs W hC hn => ?_) ?_
        · skip
          have e1 := hn.1 rfl
          refine ⟨rfl, ?_⟩
          simp only [putAll, e1]
          go_simp
          exact HU8.out
        refine relV_val rfl (fun v W => ∃ A c, v = .slice A 1 c ∧ OwnB W wr.heap.size (.slice A 1 c) (be 1 k)) (by rintro v W1 W2 ⟨A, c, e, ho⟩ hG; exact ⟨A, c, e, hG.own ho⟩) rfl (fun vs W hC hn => ?_) ?_
        · skip
          have e2 := hn.1 rfl
          refine ⟨.slice (some ⟨W.heap.size, 0, none⟩) 1 1, W.alloc (.cells #[.int .u8 (n8 (UInt8.ofNat k))] 5), rfl, ?_, ⟨_, _, rfl, ownB_one W _ k hC.below.size⟩, GrowsK.of ((Below.refl _ W).alloc (Nat.le_refl _) _) hC.below.size⟩
          simp only [putAll, e2]
          go_simp
        refine relV_const (GrowsK.refl _ _) rfl (.func (.func 44) #[] #[]) rfl (fun vs W hC hn => ?_) ?_
        · skip
          refine ⟨rfl, ?_⟩
          have hc := (hC.below.cell (p := ⟨b9, 0, none⟩) HF.out.1).trans HF.out.2
          simp only [putAll]
          go_simp
        refine relV_const (GrowsK.refl _ _) rfl (.pointer (some ⟨b3, 1, none⟩)) rfl (fun vs W hC hn => ?_) ?_
        · skip
          refine ⟨rfl, ?_⟩
          simp only [putAll]
          go_simp
        refine relV_const (GrowsK.refl _ _) rfl (.int .u32 (s : Int)) rfl (fun vs W hC hn => ?_) ?_
        · skip
          have e5 := hn.1 rfl
          refine ⟨rfl, ?_⟩
          have hc := (HT.out.below hC.below HT.out.lt).cell 1
          simp only [putAll, e5]
          go_simp
        refine relV_call rfl (fun v W => ∃ A c, v = .slice A 4 c ∧ OwnB W wr.heap.size (.slice A 4 c) (be 4 s)) (by rintro v W1 W2 ⟨A, c, e, ho⟩ hG; exact ⟨A, c, e, hG.own ho⟩) rfl (fun vs W hC hn => ?_) ?_
        · skip
          have e4 := hn.2.2.1 rfl
          have e6 := hn.1 rfl
          refine ⟨44, #[.int .u32 (s : Int)], rfl, ?_, (lit4_any s (s : Int) (by omega) W).mono (by rintro e2 w2 ⟨A, c, rfl, ho, hb⟩; exact ⟨_, rfl, ⟨A, c, rfl, ho.lower hC.below.size⟩, GrowsK.of hb hC.below.size⟩)⟩
          simp only [putAll, e4, e6]
          go_simp
        refine relV_const (GrowsK.refl _ _) rfl (.func (.func 44) #[] #[]) rfl (fun vs W hC hn => ?_) ?_
        · skip
          refine ⟨rfl, ?_⟩
          have hc := (hC.below.cell (p := ⟨b9, 0, none⟩) HF.out.1).trans HF.out.2
          simp only [putAll]
          go_simp
        refine relV_const (GrowsK.refl _ _) rfl (.pointer (some ⟨b3, 2, none⟩)) rfl (fun vs W hC hn => ?_) ?_
        · skip
          refine ⟨rfl, ?_⟩
          simp only [putAll]
          go_simp
        refine relV_const (GrowsK.refl _ _) rfl (.int .u32 (e : Int)) rfl (fun vs W hC hn => ?_) ?_
        · skip
          have e9 := hn.1 rfl
          refine ⟨rfl, ?_⟩
          have hc := (HT.out.below hC.below HT.out.lt).cell 2
          simp only [putAll, e9]
          go_simp
        refine relV_call rfl (fun v W => ∃ A c, v = .slice A 4 c ∧ OwnB W wr.heap.size (.slice A 4 c) (be 4 e)) (by rintro v W1 W2 ⟨A, c, e, ho⟩ hG; exact ⟨A, c, e, hG.own ho⟩) rfl (fun vs W hC hn => ?_) ?_
        · skip
          have e8 := hn.2.2.1 rfl
          have e10 := hn.1 rfl
          refine ⟨44, #[.int .u32 (e : Int)], rfl, ?_, (lit4_any e (e : Int) (by omega) W).mono (by rintro e2 w2 ⟨A, c, rfl, ho, hb⟩; exact ⟨_, rfl, ⟨A, c, rfl, ho.lower hC.below.size⟩, GrowsK.of hb hC.below.size⟩)⟩
          simp only [putAll, e8, e10]
          go_simp
        refine relV_const (GrowsK.refl _ _) rfl (.func (.func 47) #[] #[.pointer (some ⟨b9, 0, none⟩)]) rfl (fun vs W hC hn => ?_) ?_
        · skip
          refine ⟨rfl, ?_⟩
          simp only [putAll]
          go_simp
        refine relV_const (GrowsK.refl _ _) rfl (.pointer (some ⟨b3, 3, none⟩)) rfl (fun vs W hC hn => ?_) ?_
        · skip
          refine ⟨rfl, ?_⟩
          simp only [putAll]
          go_simp
        refine relV_const (GrowsK.refl _ _) rfl (.int .u64 (n64 C)) rfl (fun vs W hC hn => ?_) ?_
        · skip
          have e13 := hn.1 rfl
          refine ⟨rfl, ?_⟩
          have hc := (HT.out.below hC.below HT.out.lt).cell 3
          simp only [putAll, e13]
          go_simp
        refine relV_call rfl (fun v W => ∃ A c, v = .slice A 8 c ∧ OwnB W wr.heap.size (.slice A 8 c) (be 8 C.toNat)) (by rintro v W1 W2 ⟨A, c, e, ho⟩ hG; exact ⟨A, c, e, hG.own ho⟩) rfl (fun vs W hC hn => ?_) ?_
        · skip
          have e12 := hn.2.2.1 rfl
          have e14 := hn.1 rfl
          refine ⟨47, #[.int .u64 (n64 C), .pointer (some ⟨b9, 0, none⟩)], rfl, ?_, (lit8_any C.toNat C (by have := C.isLt; omega) b9 W (Nat.lt_of_lt_of_le HF.out.1 hC.below.size) ((hC.below.cell (p := ⟨b9, 0, none⟩) HF.out.1).trans HF.out.2)).mono (by rintro e2 w2 ⟨A, c, rfl, ho, hb⟩; exact ⟨_, rfl, ⟨A, c, rfl, ho.lower hC.below.size⟩, GrowsK.of hb hC.below.size⟩)⟩
          simp only [putAll, e12, e14]
          go_simp
        refine relV_const (GrowsK.refl _ _) rfl (.func (.func 47) #[] #[.pointer (some ⟨b9, 0, none⟩)]) rfl (fun vs W hC hn => ?_) ?_
        · skip
          refine ⟨rfl, ?_⟩
          simp only [putAll]
          go_simp
        refine relV_const (GrowsK.refl _ _) rfl (.pointer (some ⟨b3, 4, none⟩)) rfl (fun vs W hC hn => ?_) ?_
        · skip
          refine ⟨rfl, ?_⟩
          simp only [putAll]
          go_simp
        refine relV_const (GrowsK.refl _ _) rfl (.int .u64 (n64 V)) rfl (fun vs W hC hn => ?_) ?_
        · skip
          have e17 := hn.1 rfl
          refine ⟨rfl, ?_⟩
          have hc := (HT.out.below hC.below HT.out.lt).cell 4
          simp only [putAll, e17]
          go_simp
        refine relV_call rfl (fun v W => ∃ A c, v = .slice A 8 c ∧ OwnB W wr.heap.size (.slice A 8 c) (be 8 V.toNat)) (by rintro v W1 W2 ⟨A, c, e, ho⟩ hG; exact ⟨A, c, e, hG.own ho⟩) rfl (fun vs W hC hn => ?_) ?_
        · skip
          have e16 := hn.2.2.1 rfl
          have e18 := hn.1 rfl
          refine ⟨47, #[.int .u64 (n64 V), .pointer (some ⟨b9, 0, none⟩)], rfl, ?_, (lit8_any V.toNat V (by have := V.isLt; omega) b9 W (Nat.lt_of_lt_of_le HF.out.1 hC.below.size) ((hC.below.cell (p := ⟨b9, 0, none⟩) HF.out.1).trans HF.out.2)).mono (by rintro e2 w2 ⟨A, c, rfl, ho, hb⟩; exact ⟨_, rfl, ⟨A, c, rfl, ho.lower hC.below.size⟩, GrowsK.of hb hC.below.size⟩)⟩
          simp only [putAll, e16, e18]
          go_simp
        refine relV_val rfl (FiveAt wr.heap.size k s e C.toNat V.toNat) (fun v W1 W2 h hG => h.keep hG) rfl (fun vs W hC hn => ?_) ?_
        · skip
          obtain ⟨A3, c3, e3, ho3⟩ := hn.2.2.2.2.2.2.2.2.2.2.2.2.2.2.2.2.1 rfl
          obtain ⟨A7, c7, e7, ho7⟩ := hn.2.2.2.2.2.2.2.2.2.2.2.2.1 rfl
          obtain ⟨A11, c11, e11, ho11⟩ := hn.2.2.2.2.2.2.2.2.1 rfl
          obtain ⟨A15, c15, e15, ho15⟩ := hn.2.2.2.2.1 rfl
          obtain ⟨A19, c19, e19, ho19⟩ := hn.1 rfl
          refine ⟨.slice (some ⟨W.heap.size, 0, none⟩) 5 5, _, rfl, ?_, FiveAt.new ho3 ho7 ho11 ho15 ho19, GrowsK.of ((Below.refl _ W).alloc (Nat.le_refl _) _) hC.below.size⟩
          simp only [putAll, e3, e7, e11, e15, e19]
          go_simp
        refine relV_call_const rfl (.tuple #[.agg (u8s wk).toArray, .int .i64 0]) 23 rfl (fun vs W hC hn => ?_) ?_
        · skip
          have e0 := hn.2.2.2.2.2.2.2.2.2.2.2.2.2.2.2.2.2.2.2.2.1 rfl
          obtain ⟨g20, e20, hp20⟩ := FiveAt.parts (hn.1 rfl)
          refine ⟨#[.slice A5 N c5, .string wayS, .slice (some ⟨g20, 0, none⟩) 5 5], rfl, ?_, (HDW.out W g20 hC hp20)⟩
          simp only [putAll, e0, e20]
          go_simp
          rfl
        refine relV_const (GrowsK.refl _ _) rfl (.tuple #[.agg (u8s wk).toArray, .int .i64 0]) rfl (fun vs W hC hn => ?_) ?_
        · skip
          have e21 := hn.1 rfl
          refine ⟨rfl, ?_⟩
          simp only [putAll, e21]
          go_simp
        refine relV_const (GrowsK.refl _ _) rfl (.agg (u8s wk).toArray) rfl (fun vs W hC hn => ?_) ?_
        · skip
          have e22 := hn.1 rfl
          refine ⟨rfl, ?_⟩
          simp only [putAll, e22]
          go_simp
        refine relV_const (GrowsK.refl _ _) rfl (.int .i64 0) rfl (fun vs W hC hn => ?_) ?_
        · skip
          have e22 := hn.2.1 rfl
          refine ⟨rfl, ?_⟩
          simp only [putAll, e22]
          go_simp
        refine relV_val rfl (KeyAt wr.heap.size wk) (fun v W1 W2 h hG => h.keep hG) rfl (fun vs W hC hn => ?_) ?_
        · skip
          refine ⟨.pointer (some ⟨W.heap.size, 0, none⟩), W.alloc (.cells (u8s (zeros 32)).toArray 43), rfl, ?_, KeyAt.new hC.below.size, GrowsK.of ((Below.refl _ W).alloc (Nat.le_refl _) _) hC.below.size⟩
          simp only [putAll]
          go_simp
          rfl
        refine relV_store rfl (fun vs W => KeySet wr.heap.size wk (vs 25) W) (fun vs W1 W2 h hG => h.keep hG) (fun vs vs' W h ht => by have := h 25 (.inr rfl); simp only [← this]; exact ht) (fun vs v W h => by simpa [updV] using h) 43 (.tmp 12) (.tmp 70) rfl rfl rfl (fun vs W hC hn => ?_) ?_
        · obtain ⟨g25, e25, hb25, hr25⟩ := hn.1 rfl
          have e23 := hn.2.2.1 rfl
          obtain ⟨hst1, hst2⟩ := KeyAt.store hb25 hr25
          have h3 : ∃ old, W.heap[g25]? = some (.cells old 43 (0, 0)) ∧ old.size = (u8s wk).toArray.size := by
            rcases hr25 with hr | hr
            · exact ⟨_, hr, HZK.out⟩
            · exact ⟨_, hr, rfl⟩
          obtain ⟨old, h3, h5⟩ := h3
          refine ⟨g25, (u8s wk).toArray, 43, old, ?_, ?_, h3, HIK.out, h5, u8s_all _, ⟨g25, e25, hb25, hst1⟩, hst2⟩
          · simp only [putAll, e25]
            go_simp
          · simp only [putAll, e23]
            go_simp
        refine relV_const (GrowsK.refl _ _) rfl (.int .i64 0) rfl (fun vs W hC hn => ?_) ?_
        · skip
          have e24 := hn.2.2.1 rfl
          refine ⟨rfl, ?_⟩
          simp only [putAll, e24]
          go_simp
        refine relV_nil (fun vs X hC hn => ?_)
        have e27 := hn.1
        obtain ⟨g12, e25, hg12, hr12⟩ := hn.2.1
        simp only [putAll, e27, e25]
        have HBX : Hid (Below W7.heap.size W7 X) := HBE.out.trans (hC.below.mono HBE.out.size)
        have HR12 : Hid (Row X g12 43 (u8s wk).toArray) := hr12
        have HTR : Hid (Row X b3 68 #[.int .i64 z, .int .u32 (s : Int), .int .u32 (e : Int), .int .u64 (n64 C), .int .u64 (n64 V)]) := HT.out.below hC.below HT.out.lt
        have HR6X : Hid (RingAt X w2.heap.size g6 sec) := HR67.out.below HBX.out
        have HR7X : Hid (RingAt X w3.heap.size g7 sec) := HR77.out.below HBX.out
        have HNE : Hid ((binOp .neq 43 (.agg (u8s wk).toArray) (.agg (u8s wk).toArray)).run Tryd.prog = fun w => .ok (.bool false) w) := show _ = _ from funext fun w => by
          have := neq_key wk wk HWL.out HWL.out w
          rwa [show (!(wk == wk)) = false by simp] at this
        have HWY6 : Hid (∀ W, Alike X W → Calls Tryd.prog 40 #[.pointer (some ⟨g6, 0, none⟩), .int .i64 (k : Int), .int .u32 (s : Int), .int .u32 (e : Int), .int .u64 (n64 C), .int .u64 (n64 V)] W fun e w' => e = .returned (.agg (u8s wk).toArray) ∧ Below W.heap.size W w') := fun W hW => by
          have hb := HBX.out.trans (Below.mono hW HBX.out.size)
          have := way_any sec w2.heap.size g6 k s e C V W (HR6X.out.below hW) m1 m2 hlt hs he (HC7.out.below hb) (HS7.out.below hb)
          rwa [← HWK.out] at this
        have HWY7 : Hid (∀ W, Alike X W → Calls Tryd.prog 40 #[.pointer (some ⟨g7, 0, none⟩), .int .i64 (k : Int), .int .u32 (s : Int), .int .u32 (e : Int), .int .u64 (n64 C), .int .u64 (n64 V)] W fun e w' => e = .returned (.agg (u8s wk).toArray) ∧ Below W.heap.size W w') := fun W hW => by
          have hb := HBX.out.trans (Below.mono hW HBX.out.size)
          have := way_any sec w3.heap.size g7 k s e C V W (HR7X.out.below hW) m1 m2 hlt hs he (HC7.out.below hb) (HS7.out.below hb)
          rwa [← HWK.out] at this
        clear hC hn hr12 HDW
        go_upto_region 12 with (fail)
        refine wp_region_alike (by kernel_rfl) (by kernel_rfl) ?_
        go_simp
        refine q_move (some 72) (.pointer (some ⟨g6, 0, none⟩)) _ rfl rfl rfl rfl ?_
        go_simp
        refine q_move (some 73) (.int .i64 (k : Int)) _ rfl rfl rfl rfl ?_
        go_simp
        refine q_val (some 74) (.pointer (some ⟨b3, 1, none⟩)) rfl rfl (fun w _ => by go_simp) ?_
        go_simp
        refine q_val (some 75) (.int .u32 (s : Int)) rfl rfl (fun w hw => by have hc := (hw.row HTR.out).cell 1; go_simp) ?_
        go_simp
        refine q_val (some 76) (.pointer (some ⟨b3, 2, none⟩)) rfl rfl (fun w _ => by go_simp) ?_
        go_simp
        refine q_val (some 77) (.int .u32 (e : Int)) rfl rfl (fun w hw => by have hc := (hw.row HTR.out).cell 2; go_simp) ?_
        go_simp
        refine q_val (some 78) (.pointer (some ⟨b3, 3, none⟩)) rfl rfl (fun w _ => by go_simp) ?_
        go_simp
        refine q_val (some 79) (.int .u64 (n64 C)) rfl rfl (fun w hw => by have hc := (hw.row HTR.out).cell 3; go_simp) ?_
        go_simp
        refine q_val (some 80) (.pointer (some ⟨b3, 4, none⟩)) rfl rfl (fun w _ => by go_simp) ?_
        go_simp
        refine q_val (some 81) (.int .u64 (n64 V)) rfl rfl (fun w hw => by have hc := (hw.row HTR.out).cell 4; go_simp) ?_
        go_simp
        refine q_call (some 82) (.agg (u8s wk).toArray) 40 #[.pointer (some ⟨g6, 0, none⟩), .int .i64 (k : Int), .int .u32 (s : Int), .int .u32 (e : Int), .int .u64 (n64 C), .int .u64 (n64 V)] rfl rfl (fun w => by go_simp) HWY6.out ?_
        go_simp
        refine q_load_row (some 83) 43 _ g12 43 (u8s wk).toArray _ rfl rfl rfl rfl HR12.out Tryd.underlying43 rfl HIK.out ?_
        go_simp
        refine q_val (some 84) (.bool false) rfl rfl (fun w hw => by have he := HNE.out; go_simp) ?_
        go_simp
        refine q_move (some 85) (.bool false) _ rfl rfl rfl rfl ?_
        go_simp
        refine q_move (some 86) (.pointer (some ⟨g7, 0, none⟩)) _ rfl rfl rfl rfl ?_
        go_simp
        refine q_move (some 87) (.int .i64 (k : Int)) _ rfl rfl rfl rfl ?_
        go_simp
        refine q_val (some 88) (.pointer (some ⟨b3, 1, none⟩)) rfl rfl (fun w _ => by go_simp) ?_
        go_simp
        refine q_val (some 89) (.int .u32 (s : Int)) rfl rfl (fun w hw => by have hc := (hw.row HTR.out).cell 1; go_simp) ?_
        go_simp
        refine q_val (some 90) (.pointer (some ⟨b3, 2, none⟩)) rfl rfl (fun w _ => by go_simp) ?_
        go_simp
        refine q_val (some 91) (.int .u32 (e : Int)) rfl rfl (fun w hw => by have hc := (hw.row HTR.out).cell 2; go_simp) ?_
        go_simp
        refine q_val (some 92) (.pointer (some ⟨b3, 3, none⟩)) rfl rfl (fun w _ => by go_simp) ?_
        go_simp
        refine q_val (some 93) (.int .u64 (n64 C)) rfl rfl (fun w hw => by have hc := (hw.row HTR.out).cell 3; go_simp) ?_
        go_simp
        refine q_val (some 94) (.pointer (some ⟨b3, 4, none⟩)) rfl rfl (fun w _ => by go_simp) ?_
        go_simp
        refine q_val (some 95) (.int .u64 (n64 V)) rfl rfl (fun w hw => by have hc := (hw.row HTR.out).cell 4; go_simp) ?_
        go_simp
        refine q_call (some 96) (.agg (u8s wk).toArray) 40 #[.pointer (some ⟨g7, 0, none⟩), .int .i64 (k : Int), .int .u32 (s : Int), .int .u32 (e : Int), .int .u64 (n64 C), .int .u64 (n64 V)] rfl rfl (fun w => by go_simp) HWY7.out ?_
        go_simp
        refine q_load_row (some 97) 43 _ g12 43 (u8s wk).toArray _ rfl rfl rfl rfl HR12.out Tryd.underlying43 rfl HIK.out ?_
        go_simp
        refine q_val (some 98) (.bool false) rfl rfl (fun w hw => by have he := HNE.out; go_simp) ?_
        go_simp
        refine q_val (some 99) (.bool false) rfl rfl (fun w _ => by go_simp) ?_
        go_simp
        refine wpQuiet_nil ?_
        intro wz hz
        have HBZ : Hid (Below W7.heap.size W7 wz) := HBX.out.trans (Below.mono hz HBX.out.size)
        clear hz
        go_wp2_with fail
        go_roundw
        case rel => exact ⟨k + 1, by omega, by go_num, HBZ.out⟩
        case measure => simp [intOf]; omega
    · obtain rfl : k = 2 := by omega
      obtain ⟨tkey, htkey⟩ : ∃ tkey, tkey = hmac sec (laidB tokenS []) := ⟨_, rfl⟩
      have htl : tkey.length = 32 := by rw [htkey, hmac]; exact sha_length _
      obtain ⟨hky, hhky⟩ : ∃ hky, hky = hmac sec (laidB hello []) := ⟨_, rfl⟩
      have hhl : hky.length = 32 := by rw [hhky, hmac]; exact sha_length _
      obtain ⟨tk, htk⟩ : ∃ tk, tk = tokenOf sec s e := ⟨_, rfl⟩
      have HTKEY := Lib.hid htkey
      have HHKY := Lib.hid hhky
      have HTKK := Lib.hid htk
      have HIT := Lib.hid (info_key tkey htl)
      have HZT := Lib.hid (zeros32_size tkey htl)
      have HIH := Lib.hid (info_key hky hhl)
      have HZH := Lib.hid (zeros32_size hky hhl)
      have HTL := Lib.hid htl
      have HHL := Lib.hid hhl
      have hd := derive_ok sec A5 N c5 tokenS [] none 0 0 wr ((HBY7.out.below hbel).more hbel.size) n1 n2 nc.1 nc.2 (by decide) ⟨rfl, fun h => absurd h (by omega)⟩ laid_token_length (by decide) (HC7.out.below hbel) (HS7.out.below hbel)
      rw [← htkey] at hd
      have HD := Lib.hid hd
      clear hbel hd htkey hhky htk htl hhl
      go_wp2_with fail
      refine HD.out.mono ?_
      rintro e9 w9 ⟨rfl, hb9⟩
      obtain ⟨g14, hg14⟩ : ∃ g14, g14 = w9.heap.size := ⟨_, rfl⟩
      obtain ⟨X, hX⟩ : ∃ X : World, X = w9.alloc (.cells (u8s tkey).toArray 43) := ⟨_, rfl⟩
      have HXX := Lib.hid hX
      have HG14 := Lib.hid hg14
      have hbX : Below wr.heap.size wr X := by rw [hX]; exact hb9.alloc hb9.size _
      have HR14 : Hid (Row X g14 43 (u8s tkey).toArray) := show Row _ _ _ _ by rw [hX, hg14]; exact Row.new w9 _ _
      have HBX : Hid (Below W7.heap.size W7 X) := HBE.out.trans (hbX.mono HBE.out.size)
      have HTX : Hid (Row X b3 68 #[.int .i64 z, .int .u32 (s : Int), .int .u32 (e : Int), .int .u64 (n64 C), .int .u64 (n64 V)]) := HT7.out.below HBX.out HT7.out.lt
      have HFX : Hid (b9 < X.heap.size ∧ X.cell? ⟨b9, 0, none⟩ = some (.func (.func 44) #[] #[])) := show _ ∧ _ from ⟨Nat.lt_of_lt_of_le HF7.out.1 HBX.out.size, (HBX.out.cell (p := ⟨b9, 0, none⟩) HF7.out.1).trans HF7.out.2⟩
      have HTG : Hid (∀ W A c, GrowsL X.heap.size (be 4 s ++ be 4 e) X W → OwnB W X.heap.size (.slice A 8 c) (be 4 s ++ be 4 e) → Calls Tryd.prog 25 #[.agg (u8s tkey).toArray, .slice A 8 c] W fun e' w' => e' = .returned (.int .u64 (tk : Nat)) ∧ GrowsL X.heap.size (be 4 s ++ be 4 e) W w') := fun W A c hG ho => by
        have hb := HBX.out.trans (hG.below.mono HBX.out.size)
        obtain ⟨A', c', e3, f1, f2⟩ := ho.form
        injection e3 with e4 e5 e6
        subst e6
        have h := tag_any tkey (be 4 s ++ be 4 e) HTL.out A 8 c W ho.bytes (by rw [List.length_append, be_length, be_length] at f1; exact f1) f2 (by decide) (HC7.out.below hb) (HS7.out.below hb)
        refine h.mono fun e w' ⟨h1, h2⟩ => ⟨by rw [h1, HTKK.out, HTKEY.out]; rfl, GrowsL.of h2 hG.below.size⟩
      clear hX hg14 hb9 hbX HD
      go_upto_region 16 with ((with_reducible show wpList _ _ _ (⟨none, .store _ _ _, _, _, _, _⟩ :: _) _ _); go_loud (refine wpList_store_new rfl 43 _ _ rfl 43 _ (u8s tkey).toArray rfl rfl HIT.out HZT.out (u8s_all _) ?_))
      rw [← HXX.out, ← HG14.out]
      refine wp_region_relL X.heap.size (be 4 s ++ be 4 e) [(0, some 106), (1, some 107), (2, some 108), (3, some 109), (4, some 110), (5, some 111), (6, some 112), (7, some 113), (8, some 114), (9, some 115), (10, some 116), (11, some 16)] [] [] (by kernel_rfl) rfl (by kernel_rfl) rfl ?_
      refine relE_const (GrowsL.refl _ _) rfl (.agg (u8s tkey).toArray) rfl (fun vs W hC hn => ?_) ?_
      · skip
        refine ⟨rfl, ?_⟩
        simp only [putAll]
        refine run_load_whole (HR14.out.below hC.below HR14.out.lt) Tryd.underlying43 rfl HIT.out rfl ?_
        go_simp
      refine relE_const (GrowsL.refl _ _) rfl (.func (.func 44) #[] #[]) rfl (fun vs W hC hn => ?_) ?_
      · skip
        refine ⟨rfl, ?_⟩
        have hc := (hC.below.cell (p := ⟨b9, 0, none⟩) HFX.out.1).trans HFX.out.2
        simp only [putAll]
        go_simp
      refine relE_const (GrowsL.refl _ _) rfl (.pointer (some ⟨b3, 1, none⟩)) rfl (fun vs W hC hn => ?_) ?_
      · skip
        refine ⟨rfl, ?_⟩
        simp only [putAll]
        go_simp
      refine relE_const (GrowsL.refl _ _) rfl (.int .u32 (s : Int)) rfl (fun vs W hC hn => ?_) ?_
      · skip
        have e2 := hn.1 rfl
        refine ⟨rfl, ?_⟩
        have hc := (HTX.out.below hC.below HTX.out.lt).cell 1
        simp only [putAll, e2]
        go_simp
      refine relE_call rfl (fun v W => ∃ A c, v = .slice A 4 c ∧ OwnB W X.heap.size (.slice A 4 c) (be 4 s)) (by rintro v W1 W2 ⟨A, c, e, ho⟩ hG; exact ⟨A, c, e, hG.short (by rw [be_length]; omega) ho⟩) rfl (fun vs W hC hn => ?_) ?_
      · skip
        have e1 := hn.2.2.1 rfl
        have e3 := hn.1 rfl
        refine ⟨44, #[.int .u32 (s : Int)], rfl, ?_, (lit4_any s (s : Int) (by omega) W).mono (by rintro e2 w2 ⟨A, c, rfl, ho, hb⟩; exact ⟨_, rfl, ⟨A, c, rfl, ho.lower hC.below.size⟩, GrowsL.of hb hC.below.size⟩)⟩
        simp only [putAll, e1, e3]
        go_simp
      refine relE_const (GrowsL.refl _ _) rfl (.func (.func 44) #[] #[]) rfl (fun vs W hC hn => ?_) ?_
      · skip
        refine ⟨rfl, ?_⟩
        have hc := (hC.below.cell (p := ⟨b9, 0, none⟩) HFX.out.1).trans HFX.out.2
        simp only [putAll]
        go_simp
      refine relE_const (GrowsL.refl _ _) rfl (.pointer (some ⟨b3, 2, none⟩)) rfl (fun vs W hC hn => ?_) ?_
      · skip
        refine ⟨rfl, ?_⟩
        simp only [putAll]
        go_simp
      refine relE_const (GrowsL.refl _ _) rfl (.int .u32 (e : Int)) rfl (fun vs W hC hn => ?_) ?_
      · skip
        have e6 := hn.1 rfl
        refine ⟨rfl, ?_⟩
        have hc := (HTX.out.below hC.below HTX.out.lt).cell 2
        simp only [putAll, e6]
        go_simp
      refine relE_call rfl (fun v W => ∃ A c, v = .slice A 4 c ∧ OwnB W X.heap.size (.slice A 4 c) (be 4 e)) (by rintro v W1 W2 ⟨A, c, e, ho⟩ hG; exact ⟨A, c, e, hG.short (by rw [be_length]; omega) ho⟩) rfl (fun vs W hC hn => ?_) ?_
      · skip
        have e5 := hn.2.2.1 rfl
        have e7 := hn.1 rfl
        refine ⟨44, #[.int .u32 (e : Int)], rfl, ?_, (lit4_any e (e : Int) (by omega) W).mono (by rintro e2 w2 ⟨A, c, rfl, ho, hb⟩; exact ⟨_, rfl, ⟨A, c, rfl, ho.lower hC.below.size⟩, GrowsL.of hb hC.below.size⟩)⟩
        simp only [putAll, e5, e7]
        go_simp
      refine rel_append rfl (fun v W => ∃ A c, v = .slice A 8 c ∧ OwnB W X.heap.size (.slice A 8 c) (be 4 s ++ be 4 e)) (by rintro v W1 W2 ⟨A, c, e, ho⟩ hG; exact ⟨A, c, e, hG.long ho⟩) rfl rfl (.tmp 110) (.tmp 114) 22 22 rfl (fun vs W hC hn => ?_) ?_
      · skip
        obtain ⟨A4, c4, e4, ho4⟩ := hn.2.2.2.2.1 rfl
        obtain ⟨A8, c8, e8, ho8⟩ := hn.1 rfl
        obtain ⟨A9, c9, w9, hrun, ho9, hg9⟩ := run_append_short 22 ho4 ho8 (by rw [be_length]) (by rw [be_length]) hC.below.size
        refine ⟨.slice A4 4 c4, .slice A8 4 c8, _, w9, ?_, ?_, hrun, ⟨A9, c9, rfl, ho9⟩, hg9⟩
        · simp only [putAll, e4, e8]
          go_simp
        · simp only [putAll, e4, e8]
          go_simp
      refine relE_call_const rfl (.int .u64 (tk : Nat)) 25 rfl (fun vs W hC hn => ?_) ?_
      · skip
        have e0 := hn.2.2.2.2.2.2.2.2.2.1 rfl
        obtain ⟨A9, c9, e9, ho9⟩ := hn.1 rfl
        refine ⟨#[.agg (u8s tkey).toArray, .slice A9 8 c9], rfl, ?_, HTG.out W A9 c9 hC ho9⟩
        simp only [putAll, e0, e9]
        go_simp
      refine relE_const (GrowsL.refl _ _) rfl (.int .u64 (tk : Nat)) rfl (fun vs W hC hn => ?_) ?_
      · skip
        have e10 := hn.1 rfl
        refine ⟨rfl, ?_⟩
        simp only [putAll, e10]
        go_simp
      refine relE_nil (fun vs Y hC hn => ?_)
      have e11 := hn.1
      simp only [putAll, e11]
      have HBY : Hid (Below W7.heap.size W7 Y) := HBX.out.trans (hC.below.mono HBX.out.size)
      have HD2 := Lib.hid (derive_ok sec A5 N c5 hello [] none 0 0 Y ((HBY7.out.below HBY.out).more HBY.out.size) n1 n2 nc.1 nc.2 (by decide) ⟨rfl, fun h => absurd h (by omega)⟩ (by rw [laid_hello]; decide) (by decide) (HC7.out.below HBY.out) (HS7.out.below HBY.out))
      clear hC hn HTG HR14
      go_wp2_with fail
      refine HD2.out.mono ?_
      rintro e10 w10 ⟨rfl, hb10⟩
      rw [← HHKY.out]
      obtain ⟨g17, hg17⟩ : ∃ g17, g17 = w10.heap.size := ⟨_, rfl⟩
      obtain ⟨Z, hZ⟩ : ∃ Z : World, Z = w10.alloc (.cells (u8s hky).toArray 43) := ⟨_, rfl⟩
      have HZZ := Lib.hid hZ
      have HG17 := Lib.hid hg17
      have hbZ : Below Y.heap.size Y Z := by rw [hZ]; exact hb10.alloc hb10.size _
      have HR17 : Hid (Row Z g17 43 (u8s hky).toArray) := show Row _ _ _ _ by rw [hZ, hg17]; exact Row.new w10 _ _
      have HBZ : Hid (Below W7.heap.size W7 Z) := HBY.out.trans (hbZ.mono HBY.out.size)
      have HTZ : Hid (Row Z b3 68 #[.int .i64 z, .int .u32 (s : Int), .int .u32 (e : Int), .int .u64 (n64 C), .int .u64 (n64 V)]) := HT7.out.below HBZ.out HT7.out.lt
      have HR6Z : Hid (RingAt Z w2.heap.size g6 sec) := HR67.out.below HBZ.out
      have HR7Z : Hid (RingAt Z w3.heap.size g7 sec) := HR77.out.below HBZ.out
      clear hZ hg17 hb10 hbZ HD2
      have HTK6 : Hid (∀ W, Alike Z W → Calls Tryd.prog 42 #[.pointer (some ⟨g6, 0, none⟩), .int .u32 (s : Int), .int .u32 (e : Int)] W fun e w' => e = .returned (.int .u64 (tk : Nat)) ∧ Below W.heap.size W w') := fun W hW => by
        have hb := HBZ.out.trans (Below.mono hW HBZ.out.size)
        have := token_any sec w2.heap.size g6 s e W (HR6Z.out.below hW) m1 m2 hs he (HC7.out.below hb) (HS7.out.below hb)
        rwa [← HTKK.out] at this
      have HTK7 : Hid (∀ W, Alike Z W → Calls Tryd.prog 42 #[.pointer (some ⟨g7, 0, none⟩), .int .u32 (s : Int), .int .u32 (e : Int)] W fun e w' => e = .returned (.int .u64 (tk : Nat)) ∧ Below W.heap.size W w') := fun W hW => by
        have hb := HBZ.out.trans (Below.mono hW HBZ.out.size)
        have := token_any sec w3.heap.size g7 s e W (HR7Z.out.below hW) m1 m2 hs he (HC7.out.below hb) (HS7.out.below hb)
        rwa [← HTKK.out] at this
      have HHE : Hid (∀ W, Alike Z W → Calls Tryd.prog 39 #[.pointer (some ⟨g6, 0, none⟩)] W fun e w' => e = .returned (.agg (u8s hky).toArray) ∧ Below W.heap.size W w') := fun W hW => by
        have hb := HBZ.out.trans (Below.mono hW HBZ.out.size)
        have := hello_any sec w2.heap.size g6 W (HR6Z.out.below hW) m1 m2 (HC7.out.below hb) (HS7.out.below hb)
        rwa [← HHKY.out] at this
      have HW2 : Hid (∀ W, Alike Z W → Calls Tryd.prog 40 #[.pointer (some ⟨g6, 0, none⟩), .int .i64 2, .int .u32 1, .int .u32 1, .int .u64 1, .int .u64 1] W fun e w' => e = .returned (.agg (u8s (zeros 32)).toArray) ∧ Below W.heap.size W w') := fun W hW => way_bad 2 (by decide) (by decide) _ _ _ _ _ W
      have HWN : Hid (∀ W, Alike Z W → Calls Tryd.prog 40 #[.pointer (some ⟨g6, 0, none⟩), .int .i64 (-1), .int .u32 1, .int .u32 1, .int .u64 1, .int .u64 1] W fun e w' => e = .returned (.agg (u8s (zeros 32)).toArray) ∧ Below W.heap.size W w') := fun W hW => way_bad (-1) (by decide) (by decide) _ _ _ _ _ W
      have HWA : Hid (∀ W, Alike Z W → Calls Tryd.prog 27 #[] W fun e w' => e = .returned (.bool true) ∧ Below W.heap.size W w') := fun W hW => by
        have hb := HBZ.out.trans (Below.mono hW HBZ.out.size)
        exact wakes_any W (HC7.out.below hb) (HS7.out.below hb)
      have HEH := Lib.hid (eq_selfW hky HHL.out)
      have HEZ := Lib.hid (eq_selfW (zeros 32) (by simp [zeros]))
      go_upto_region 18 with ((with_reducible show wpList _ _ _ (⟨none, .store _ _ _, _, _, _, _⟩ :: _) _ _); go_loud (refine wpList_store_new rfl 43 _ _ rfl 43 _ (u8s hky).toArray rfl rfl HIH.out HZH.out (u8s_all _) ?_))
      rw [← HZZ.out, ← HG17.out]
      refine wp_region_alike (by kernel_rfl) (by kernel_rfl) ?_
      go_simp
      refine q_move (some 122) (.pointer (some ⟨g6, 0, none⟩)) _ rfl rfl rfl rfl ?_
      go_simp
      refine q_val (some 123) (.pointer (some ⟨b3, 1, none⟩)) rfl rfl (fun w _ => by go_simp) ?_
      go_simp
      refine q_val (some 124) (.int .u32 (s : Int)) rfl rfl (fun w hw => by have hc := (hw.row HTZ.out).cell 1; go_simp) ?_
      go_simp
      refine q_val (some 125) (.pointer (some ⟨b3, 2, none⟩)) rfl rfl (fun w _ => by go_simp) ?_
      go_simp
      refine q_val (some 126) (.int .u32 (e : Int)) rfl rfl (fun w hw => by have hc := (hw.row HTZ.out).cell 2; go_simp) ?_
      go_simp
      refine q_call (some 127) (.int .u64 (tk : Nat)) 42 #[.pointer (some ⟨g6, 0, none⟩), .int .u32 (s : Int), .int .u32 (e : Int)] rfl rfl (fun w => by go_simp) HTK6.out ?_
      go_simp
      refine q_move (some 128) (.int .u64 (tk : Nat)) _ rfl rfl rfl rfl ?_
      go_simp
      refine q_val (some 129) (.bool true) rfl rfl (fun w _ => by go_simp) ?_
      go_simp
      refine q_move (some 130) (.bool true) _ rfl rfl rfl rfl ?_
      go_simp
      refine q_move (some 131) (.pointer (some ⟨g7, 0, none⟩)) _ rfl rfl rfl rfl ?_
      go_simp
      refine q_val (some 132) (.pointer (some ⟨b3, 1, none⟩)) rfl rfl (fun w _ => by go_simp) ?_
      go_simp
      refine q_val (some 133) (.int .u32 (s : Int)) rfl rfl (fun w hw => by have hc := (hw.row HTZ.out).cell 1; go_simp) ?_
      go_simp
      refine q_val (some 134) (.pointer (some ⟨b3, 2, none⟩)) rfl rfl (fun w _ => by go_simp) ?_
      go_simp
      refine q_val (some 135) (.int .u32 (e : Int)) rfl rfl (fun w hw => by have hc := (hw.row HTZ.out).cell 2; go_simp) ?_
      go_simp
      refine q_call (some 136) (.int .u64 (tk : Nat)) 42 #[.pointer (some ⟨g7, 0, none⟩), .int .u32 (s : Int), .int .u32 (e : Int)] rfl rfl (fun w => by go_simp) HTK7.out ?_
      go_simp
      refine q_move (some 137) (.int .u64 (tk : Nat)) _ rfl rfl rfl rfl ?_
      go_simp
      refine q_val (some 138) (.bool true) rfl rfl (fun w _ => by go_simp) ?_
      go_simp
      refine q_val (some 139) (.bool true) rfl rfl (fun w _ => by go_simp) ?_
      go_simp
      refine q_move (some 140) (.bool true) _ rfl rfl rfl rfl ?_
      go_simp
      refine q_move (some 141) (.pointer (some ⟨g6, 0, none⟩)) _ rfl rfl rfl rfl ?_
      go_simp
      refine q_call (some 142) (.agg (u8s hky).toArray) 39 #[.pointer (some ⟨g6, 0, none⟩)] rfl rfl (fun w => by go_simp) HHE.out ?_
      go_simp
      refine q_load_row (some 143) 43 _ g17 43 (u8s hky).toArray _ rfl rfl rfl rfl HR17.out Tryd.underlying43 rfl HIH.out ?_
      go_simp
      refine q_val (some 144) (.bool true) rfl rfl (fun w hw => by have he := HEH.out; go_simp) ?_
      go_simp
      refine q_val (some 145) (.bool true) rfl rfl (fun w _ => by go_simp) ?_
      go_simp
      refine q_move (some 146) (.bool true) _ rfl rfl rfl rfl ?_
      go_simp
      refine q_move (some 147) (.pointer (some ⟨g6, 0, none⟩)) _ rfl rfl rfl rfl ?_
      go_simp
      refine q_call (some 148) (.agg (u8s (zeros 32)).toArray) 40 #[.pointer (some ⟨g6, 0, none⟩), .int .i64 2, .int .u32 1, .int .u32 1, .int .u64 1, .int .u64 1] rfl rfl (fun w => by go_simp) HW2.out ?_
      go_simp
      refine q_val (some 149) (.agg (u8s (zeros 32)).toArray) rfl rfl (fun w _ => by go_simp; rfl) ?_
      go_simp
      refine q_val (some 150) (.bool true) rfl rfl (fun w hw => by have he := HEZ.out; go_simp) ?_
      go_simp
      refine q_val (some 151) (.bool true) rfl rfl (fun w _ => by go_simp) ?_
      go_simp
      refine q_move (some 152) (.bool true) _ rfl rfl rfl rfl ?_
      go_simp
      refine q_move (some 153) (.pointer (some ⟨g6, 0, none⟩)) _ rfl rfl rfl rfl ?_
      go_simp
      refine q_call (some 154) (.agg (u8s (zeros 32)).toArray) 40 #[.pointer (some ⟨g6, 0, none⟩), .int .i64 (-1), .int .u32 1, .int .u32 1, .int .u64 1, .int .u64 1] rfl rfl (fun w => by go_simp) HWN.out ?_
      go_simp
      refine q_val (some 155) (.agg (u8s (zeros 32)).toArray) rfl rfl (fun w _ => by go_simp; rfl) ?_
      go_simp
      refine q_val (some 156) (.bool true) rfl rfl (fun w hw => by have he := HEZ.out; go_simp) ?_
      go_simp
      refine q_val (some 157) (.bool true) rfl rfl (fun w _ => by go_simp) ?_
      go_simp
      refine q_move (some 158) (.bool true) _ rfl rfl rfl rfl ?_
      go_simp
      refine q_call (some 159) (.bool true) 27 #[] rfl rfl (fun w => by go_simp) HWA.out ?_
      go_simp
      refine q_val (some 160) (.bool true) rfl rfl (fun w _ => by go_simp) ?_
      go_simp
      refine q_assign (some 4) (.bool true) _ rfl rfl rfl rfl ?_
      go_simp
      refine wpQuiet_nil ?_
      intro wz hz
      have HBF : Hid (Below w.heap.size w wz) := HBW0.out.trans ((HB07.out.trans ((HBZ.out.trans (Below.mono hz HBZ.out.size)).mono HB07.out.size)).mono HBW0.out.size)
      clear hz
      go_wp2_with fail
      go_ret
      exact ⟨rfl, HBF.out⟩
end Go.Proofs.YtgejndannlfhkaaDoor
