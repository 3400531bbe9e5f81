/- The walks of longwireref03.Derive and longwireref03.Tag. No condition but sizes. -/
import Derived.Test.YtgejndannlfhkaaDoorRef3
namespace Go.Proofs.YtgejndannlfhkaaDoor
open Go Go.RowKit Go.Shelf

theorem info_arr (l : List UInt8) (h : l.length = 32) : (Tryd.prog.info? 23).map (·.size) = some (u8s l).toArray.size := by
  rw [List.size_toArray, u8s_length, h]; kernel_rfl

set_option maxRecDepth 100000 in
set_option maxHeartbeats 4000000 in
theorem deriveF_ok (sec : List UInt8) (SA : Option Addr) (sn sc : Nat) (s : ByteArray) (ps : List (List UInt8)) (PA : Option Addr) (pn pc : Nat) (w : World) (hsec : BytesIn w w.heap.size SA sn sec) (h1 : 1 ≤ sn) (h2 : sn ≤ 64) (hs : s.size ≤ 65535)
    (hp : PartsIn w w.heap.size PA pn ps) (hlen : (laidB s ps).length ≤ 1000000) (hpn : pn ≤ 1000000) (hsq : Squares w) (hcu : Cubes w) :
    Calls Tryd.prog 24 #[.slice SA sn sc, .string s, .slice PA pn pc] w fun e w' => e = .returned (.tuple #[.agg (u8s (hmac sec (laidB s ps))).toArray, .int .i64 0]) ∧ Below w.heap.size w w' := by
  have hpl : ps.length = pn := hp.1
  have HSEC := Lib.hid hsec
  have HP := Lib.hid hp
  have HSQ := Lib.hid hsq
  have HCU := Lib.hid hcu
  have hm := fun w => mayF_yes SA sn sc h1 h2 w
  have HM := Lib.hid hm
  obtain ⟨W0, hW0⟩ : ∃ W0 : World, W0 = w.alloc (.cells (u8s (zeros 32)).toArray 23) := ⟨_, rfl⟩
  obtain ⟨g, hg⟩ : ∃ g, g = W0.heap.size := ⟨_, rfl⟩
  have hg1 : g = w.heap.size + 1 := by rw [hg, hW0]; simp
  have hb0 : Below w.heap.size w W0 := by rw [hW0]; exact (Below.refl _ w).alloc (Nat.le_refl _) _
  have hr0 : Row W0 w.heap.size 23 (u8s (zeros 32)).toArray := by rw [hW0]; exact Row.new w _ _
  have htx := textF_any s hs W0
  rw [← hg] at htx
  have HT := Lib.hid htx
  have HR0 := Lib.hid hr0
  have HB0 := Lib.hid hb0
  have HG1 := Lib.hid hg1
  have HW0 := Lib.hid hW0
  clear hsec hp hsq hcu hm htx hr0 hb0 hg1 hg hW0
  go_enter Tryd.func24, Tryd.ntmps24
  go_upto_region 1 with (fail)
  change Code.wp _ _ _ _ (w.alloc (.cells (u8s (zeros 32)).toArray 23))
  rw [← HW0.out]
  go_wp2_with fail
  refine HT.out.mono ?_
  rintro e w2 ⟨A2, c2, rfl, hown2, hb2⟩
  have HO2 := Lib.hid hown2
  have HB2 := Lib.hid hb2
  have gle : w.heap.size ≤ g := by have := HG1.out; omega
  have HGLE := Lib.hid gle
  clear hown2 hb2 HT HW0 gle
  go_wp2_with (go_at_call 38; refine (HM.out _).mono ?_; rintro e' w' ⟨rfl, hq⟩; have hq2 := hq.symm; subst hq2; clear hq)
  go_loopw [8, 10] (fun v i wr => ∃ (k : Nat) (A : Option Addr) (n c : Nat), k ≤ pn ∧ i = .int .i64 k ∧ v = .slice A n c ∧ n = (laidTo s ps k).length ∧ OwnB wr g (.slice A n c) (laidTo s ps k) ∧ Below g W0 wr) (fun _ i _ => pn - (intOf i).toNat)
  case atStart => exact ⟨0, A2, 2 + s.size, c2, by omega, rfl, rfl, by rw [laidTo_zero, List.length_append, be_length]; rfl, by rw [laidTo_zero]; exact HO2.out, HB2.out⟩
  case round =>
    obtain ⟨k, A, n, c, hkp, rfl, rfl, hn, hown, hbr⟩ := hrel
    have HOW := Lib.hid hown
    have HBR := Lib.hid hbr
    have HN := Lib.hid hn
    have hbw : Below w.heap.size w wr := HB0.out.trans (hbr.mono HGLE.out)
    have HBW := Lib.hid hbw
    have hle0 := laidTo_le s ps k
    have hgs : g ≤ wr.heap.size := by
      have h1 := hbw.size
      have h2 := hbr.size
      have h3 := HR0.out.lt
      have h4 := HG1.out
      omega
    clear hown hbr hbw hn
    by_cases hlt : k < pn
    · obtain ⟨q, o, rfl, hq, hc⟩ := HP.out.2 (by omega)
      obtain ⟨A', m, cm, hc1, hc2, hc3, hc4⟩ := hc k hlt
      have hcell : wr.cell? ⟨q, o + k, none⟩ = some (.slice A' m cm) := (HBW.out.cell (p := ⟨q, o + k, none⟩) hq).trans hc1
      have hsucc := laidTo_succ s ps k (by omega)
      have hle := laidTo_le s ps (k + 1)
      have hml := hc4.1
      have hle2 := hle
      rw [hsucc, List.length_append, List.length_append, be_length, hml] at hle2
      have hnm := numberF_any m 4 m rfl (by omega) (by omega) wr
      have HNM := Lib.hid hnm
      have HSU := Lib.hid hsucc
      have HML := Lib.hid hml
      have HC1 := Lib.hid hc1
      have HC4 := Lib.hid hc4
      have m1 : (m : Int) ≤ 1000000 := by omega
      have n1 : n + 4 + m ≤ 1000000 := by have := HN.out; omega
      have k1 : (k : Int) < pn := by omega
      have k2 : (0 : Int) ≤ k := by omega
      clear hc hc1 hc4 hsucc hle hle2 hml hnm hle0
      go_wp2_with fail
      refine HNM.out.mono ?_
      rintro e w3 ⟨rfl, hr3, hb3⟩
      have HO3 : Hid (OwnB w3 g (.slice A n c) (laidTo s ps k)) := HOW.out.below hb3
      have HN3 : Hid (BytesIn w3 w3.heap.size (some ⟨wr.heap.size, 0, none⟩) 4 (be 4 m)) := by
        have := bytesIn_row hr3 hr3.lt
        rw [be_length] at this
        exact this
      have HB3 := Lib.hid hb3
      have hs3 : g ≤ w3.heap.size := Nat.le_trans hgs hb3.size
      clear hr3 hb3 HNM hcell
      go_wp2_with (first | ((with_reducible show wpList _ _ _ (⟨some 38, _, _, _, _, _⟩ :: _) _ _); refine wpList_append_bytes (v := .slice A n c) (l := laidTo s ps k) rfl (.tmp 30) (.tmp 37) rfl rfl HO3.out rfl HN3.out (by have := HN.out; omega) hs3 ?_; rw [← HN.out]; intro A4 c4 w4 hown4 hgrow4 hblk4; have hb4g : Below g W0 w4 := (HBR.out.trans (HB3.out.mono hgs)).grown hgrow4.out hs3 (fun q e => (HO3.out.lt q e).1); have hb4w : Below w.heap.size w w4 := HB0.out.trans (hb4g.mono HGLE.out); have hcell : w4.cell? ⟨q, o + k, none⟩ = some (.slice A' m cm) := (hb4w.cell (p := ⟨q, o + k, none⟩) hq).trans HC1.out; have HP4 : Hid (BytesIn w4 w.heap.size A' m (ps.getD k [])) := HC4.out.below hb4w; have hs4 : g ≤ w4.heap.size := Nat.le_trans hs3 hgrow4.out.size; have HB4 := Lib.hid hb4g; clear hb4g hb4w) | ((with_reducible show wpList _ _ _ (⟨some 44, _, _, _, _, _⟩ :: _) _ _); refine wpList_append_bytes (v := .slice A4 (n + 4) c4) (l := laidTo s ps k ++ be 4 m) rfl (.tmp 39) (.tmp 43) rfl rfl hown4.out rfl HP4.out (by rw [List.length_append, be_length, ← HN.out]; omega) hs4 ?_; rw [List.length_append, be_length, ← HN.out]; intro A5 c5 w5 hown5 hgrow5 hblk5))
      go_roundw
      case rel =>
        refine ⟨k + 1, A5, n + 4 + m, c5, by omega, by go_num, rfl, ?_, ?_, ?_⟩
        · rw [HSU.out, List.length_append, List.length_append, be_length, HML.out, ← HN.out]
        · rw [HSU.out, HML.out]; exact hown5.out
        · exact HB4.out.grown hgrow5.out hs4 (fun q e => (hown4.out.lt q e).1)
      case measure => simp [intOf]; omega
    · obtain rfl : k = ps.length := by omega
      rw [laidTo_all] at HOW HN
      have hrh := refhmac_any sec (laidB s ps) SA sn sc A n c wr ((HSEC.out.below HBW.out).more HBW.out.size) (by omega) (OwnB.bytes HOW.out) (by have := HN.out; omega) (HSQ.out.below HBW.out) (HCU.out.below HBW.out)
      obtain ⟨out, hout⟩ : ∃ out, out = hmac sec (laidB s ps) := ⟨_, rfl⟩
      rw [← hout] at hrh
      have hol : out.length = 32 := by rw [hout]; exact sha_length _
      have HRH := Lib.hid hrh
      have HOUT := Lib.hid hout
      have HI := Lib.hid (info_arr out hol)
      have HZ := Lib.hid (zeros32_size out hol)
      have HR1 : Hid (Row wr w.heap.size 23 (u8s (zeros 32)).toArray) := HR0.out.below HBR.out (by have := HG1.out; omega)
      clear hrh hout hle0
      go_wp2_with fail
      refine HRH.out.mono ?_
      rintro e w6 ⟨rfl, hb6⟩
      have HB6 : Hid (Below w.heap.size w w6) := HBW.out.trans (hb6.mono HBW.out.size)
      have HR6 : Hid (Row w6 w.heap.size 23 (u8s (zeros 32)).toArray) := HR1.out.below hb6 HR1.out.lt
      clear hb6 HRH
      go_wp2_with ((with_reducible show wpList _ _ _ (⟨none, .store _ _ _, _, _, _, _⟩ :: _) _ _); go_loud (refine wpList_store_row rfl 23 _ _ rfl w.heap.size (u8s out).toArray rfl rfl 23 _ HR6.out HI.out HZ.out (u8s_all _) ?_))
      exact bodyPost_ret (results_key rfl _ _ w.heap.size 23 _ _ _ rfl (Row.setRowSame HR6.out _) Tryd.underlying23 HI.out) rfl ⟨(by rw [← HOUT.out]; rfl), below_setRow HB6.out (Nat.le_refl _) _⟩

set_option maxRecDepth 100000 in
theorem deriveF_bad (SA : Option Addr) (sn sc : Nat) (s : ByteArray) (hs : s.size ≤ 65535) (PA : Option Addr) (pn pc : Nat) (w : World) (h : sn = 0 ∨ 64 < sn) :
    Calls Tryd.prog 24 #[.slice SA sn sc, .string s, .slice PA pn pc] w fun e w' => e = .returned (.tuple #[.agg (u8s (zeros 32)).toArray, .int .i64 1]) ∧ Below w.heap.size w w' := by
  have hm := fun w => mayF_no SA sn sc h w
  have HM := Lib.hid hm
  obtain ⟨W0, hW0⟩ : ∃ W0 : World, W0 = w.alloc (.cells (u8s (zeros 32)).toArray 23) := ⟨_, rfl⟩
  have hr0 : Row W0 w.heap.size 23 (u8s (zeros 32)).toArray := by rw [hW0]; exact Row.new w _ _
  have hb0 : Below w.heap.size w W0 := by rw [hW0]; exact (Below.refl _ w).alloc (Nat.le_refl _) _
  have HT := Lib.hid (textF_any s hs W0)
  have HI := Lib.hid (info_arr (zeros 32) (by simp [zeros]))
  have HR0 := Lib.hid hr0
  have HB0 := Lib.hid hb0
  have HW0 := Lib.hid hW0
  clear hr0 hb0 hW0 hm h
  go_enter Tryd.func24, Tryd.ntmps24
  go_upto_region 1 with (fail)
  change Code.wp _ _ _ _ (w.alloc (.cells (u8s (zeros 32)).toArray 23))
  rw [← HW0.out]
  go_wp2_with fail
  refine HT.out.mono ?_
  rintro e w2 ⟨A2, c2, rfl, _, hb2⟩
  have HR2 : Hid (Row w2 w.heap.size 23 (u8s (zeros 32)).toArray) := HR0.out.below hb2 HR0.out.lt
  have HB2 : Hid (Below w.heap.size w w2) := HB0.out.trans (hb2.mono HB0.out.size)
  clear hb2 HT
  go_upto_region 3 with (go_at_call 38; refine (HM.out _).mono ?_; rintro e' w' ⟨rfl, hq⟩; have hq2 := hq.symm; subst hq2; clear hq)
  go_wp2_with ((with_reducible show wpList _ _ _ (⟨none, .store _ _ _, _, _, _, _⟩ :: _) _ _); go_loud (refine wpList_store_self rfl 23 _ _ rfl w.heap.size (u8s (zeros 32)).toArray rfl rfl 23 HR2.out HI.out (u8s_all _) ?_))
  exact bodyPost_ret (results_key rfl _ _ w.heap.size 23 _ _ _ rfl HR2.out Tryd.underlying23 HI.out) rfl ⟨rfl, HB2.out⟩

set_option maxRecDepth 100000 in
set_option maxHeartbeats 1000000 in
theorem tagF_any (k b : List UInt8) (hk : k.length = 32) (BA : Option Addr) (bn bc : Nat) (w : World) (hb : BytesIn w w.heap.size BA bn b) (hlen : bn ≤ 1000000) (hsq : Squares w) (hcu : Cubes w) :
    Calls Tryd.prog 26 #[.agg (u8s k).toArray, .slice BA bn bc] w fun e w' => e = .returned (.int .u64 (unbe ((hmac k b).take 8) : Nat)) ∧ Below w.heap.size w w' := by
  have hrh := refhmac_any k b (some ⟨w.heap.size, 0, none⟩) 32 32 BA bn bc (w.alloc (.cells (u8s k).toArray 23)) (by
      have h1 := bytesIn_row (Row.new w 23 (u8s k).toArray) (Row.new w 23 (u8s k).toArray).lt
      rw [hk] at h1
      exact h1) (by omega) ((hb.alloc (Nat.le_refl _) _).more (by simp)) hlen (hsq.below ((Below.refl _ w).alloc (Nat.le_refl _) _)) (hcu.below ((Below.refl _ w).alloc (Nat.le_refl _) _))
  obtain ⟨out, hout⟩ : ∃ out, out = hmac k b := ⟨_, rfl⟩
  have hol : out.length = 32 := by rw [hout]; exact sha_length _
  rw [← hout] at hrh ⊢
  have HRH := Lib.hid hrh
  have HI := Lib.hid (info_arr out hol)
  have HZ := Lib.hid (zeros32_size out hol)
  clear hrh hb hsq hcu hout
  go_enter Tryd.func26, Tryd.ntmps26
  go_wp2_with fail
  refine HRH.out.mono ?_
  rintro e w1 ⟨rfl, hb1⟩
  have hb1' : Below w.heap.size w w1 := ((Below.refl _ w).alloc (Nat.le_refl _) _).trans (hb1.mono (by simp))
  have HRN : Hid (Row (w1.alloc (.cells (u8s out).toArray 23)) w1.heap.size 23 (u8s out).toArray) := Row.new w1 _ _
  have HBN : Hid (Below w.heap.size w (w1.alloc (.cells (u8s out).toArray 23))) := hb1'.alloc hb1'.size _
  clear hb1 hb1' HRH
  go_wp2_with ((with_reducible show wpList _ _ _ (⟨none, .store _ _ _, _, _, _, _⟩ :: _) _ _); go_loud (refine wpList_store_new rfl 23 _ _ rfl 23 _ (u8s out).toArray rfl rfl HI.out HZ.out (u8s_all _) ?_))
  obtain ⟨V, hV⟩ : ∃ V : World, V = w1.alloc (.cells (u8s out).toArray 23) := ⟨_, rfl⟩
  rw [← hV] at HRN HBN ⊢
  clear hV
  go_loop [6, 7] (fun n i => ∃ k : Nat, k ≤ 8 ∧ i = .int .i64 k ∧ n = .int .u64 (unbe (out.take k) : Nat)) (fun _ i => 8 - (intOf i).toNat)
  case atStart => exact ⟨0, by omega, rfl, rfl⟩
  case round =>
    obtain ⟨k, hk, rfl, rfl⟩ := hrel
    by_cases hlt : k < 8
    · obtain ⟨c, hcc⟩ : ∃ c, c = out.getD k 0 := ⟨_, rfl⟩
      have hck : V.cell? ⟨w1.heap.size, k, none⟩ = some (.int .u8 (n8 c)) := by rw [hcc, HRN.out.cell, List.getElem?_toArray]; exact u8s_get _ _ (by omega)
      have hbd := unbe_bd (out.take k)
      have hlk : (out.take k).length = k := by rw [List.length_take]; omega
      rw [hlk] at hbd
      have h7 : (256 : Nat) ^ k ≤ 256 ^ 7 := Nat.pow_le_pow_right (by decide) (by omega)
      have hs : unbe (out.take (k + 1)) = unbe (out.take k) * 256 + c.toNat := by
        rw [List.take_succ_eq_append_getElem (by omega), unbe_snoc, hcc]; simp [List.getD, show k < out.length by omega]
      have HSU := Lib.hid hs
      have k1 : (k : Int) < 8 := by omega
      have k2 : (0 : Int) ≤ k := by omega
      obtain ⟨n, hnn⟩ : ∃ n, n = unbe (out.take k) := ⟨_, rfl⟩
      rw [← hnn] at hbd ⊢
      have HNN := Lib.hid hnn
      have n1 : (n : Int) < 72057594037927936 := by omega
      have n0 : (0 : Int) ≤ n := by omega
      have c0 := (n8_bd c).1
      have c1' := (n8_bd c).2
      clear hcc hlk h7 hs hnn hbd
      go_wp2_with fail
      go_round
      case rel =>
        refine ⟨k + 1, by omega, by go_num, ?_⟩
        rw [HSU.out, ← HNN.out]
        have e : (256 : Int) * (n : Int) + n8 c = ((n * 256 + c.toNat : Nat) : Int) := by unfold n8; omega
        rw [e]
      case measure => simp [intOf]; omega
    · obtain rfl : k = 8 := by omega
      go_wp2_with fail
      go_ret
      exact ⟨rfl, HBN.out⟩
end Go.Proofs.YtgejndannlfhkaaDoor
