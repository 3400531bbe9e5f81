/- The walk of longwirelaw03.SealRings. No condition but sizes. -/
import Derived.Test.YtgejndannlfhkaaDoorRefWay
import Derived.Test.YtgejndannlfhkaaDoorTellsLaw
namespace Go.Proofs.YtgejndannlfhkaaDoor
open Go Go.RowKit Go.Shelf

/-- An operation of one value. -/
theorem wpList_val {P : Program} {ops : Array Oper} {rest : List Oper} {o : Oper} {a : Act} {w : World} {Q : Exit → Act → World → Prop} (hg : o.guard = none) (v : Value) (hr : (execOp a.eval o).run P w = .ok (.value v) w)
    (h : wpList P ops Q rest (a.put o.dst v) w) : wpList P ops Q (o :: rest) a w :=
  wpList_plain hg fun K hK => by unfold Oper.wp; rw [hr]; exact hK _ _ h

theorem OwnB.setByte {w : World} {base g n c k : Nat} {l : List UInt8} (h : OwnB w base (.slice (some ⟨g, 0, none⟩) n c) l) (_hk : k < l.length) (x : UInt8) : OwnB (w.setCell ⟨g, k, none⟩ (.int .u8 (n8 x))) base (.slice (some ⟨g, 0, none⟩) n c) (l.set k x) := by
  rcases h.2 with ⟨e, _⟩ | ⟨g', cap, cur, e, hb, hg, h1, h2, h3, h4⟩
  · injection e with e; cases e
  · injection e with e1 e2 e3
    injection e1 with e1
    injection e1 with e1
    subst e1 e2 e3
    refine ⟨by rw [u8s_length, Nat.mul_one], .inr ⟨g, c, cur.setIfInBounds k (.int .u8 (n8 x)), by rw [List.length_set], hb, heap_setCell_same w g k cur _ _ hg, by rw [List.length_set]; exact h1, h2, by simpa using h3, ?_⟩⟩
    rw [List.length_set, Array.toList_setIfInBounds, List.take_set, h4]
    simp [u8s, List.map_set]
theorem OwnB.free {w : World} {base g n c : Nat} {l : List UInt8} (h : OwnB w base (.slice (some ⟨g, 0, none⟩) n c) l) (k : Nat) : w.frozen? ⟨g, k, none⟩ = false := by
  rcases h.2 with ⟨e, _⟩ | ⟨g', cap, cur, e, hb, hg, h1, h2, h3, h4⟩
  · injection e with e; cases e
  · injection e with e1 e2 e3
    injection e1 with e1
    injection e1 with e1
    subst e1
    exact frozen_of_row w g k cur _ hg
theorem OwnB.head {w : World} {base n c : Nat} {A : Option Addr} {l : List UInt8} (h : OwnB w base (.slice A n c) l) (hn : 0 < n) : ∃ g, A = some ⟨g, 0, none⟩ ∧ base ≤ g := by
  rcases h.2 with ⟨e, h0⟩ | ⟨g', cap, cur, e, hb, _⟩
  · injection e with e1 e2 e3; omega
  · injection e with e1 e2 e3
    exact ⟨g', e1, hb⟩

/-- A way's key, whatever the way. -/
def wayOr (sec : List UInt8) (z : Int) (s e c v : Nat) : List UInt8 := if z = 0 ∨ z = 1 then wayKey sec z.toNat s e c v else zeros 32
theorem wayOr_length (sec : List UInt8) (z : Int) (s e c v : Nat) : (wayOr sec z s e c v).length = 32 := by
  unfold wayOr
  split
  · exact wayKey_length ..
  · simp [zeros]
theorem wayOr_any (sec : List UInt8) (base g s e : Nat) (z : Int) (C V : BitVec 64) (w : World) (hr : RingAt w base g sec) (h1 : 1 ≤ sec.length) (h2 : sec.length ≤ 64) (hs : s < 4294967296) (he : e < 4294967296) (hk : Consts w) (hst : Starts w) :
    Calls Tryd.prog 40 #[.pointer (some ⟨g, 0, none⟩), .int .i64 z, .int .u32 (s : Int), .int .u32 (e : Int), .int .u64 (n64 C), .int .u64 (n64 V)] w fun e' w' => e' = .returned (.agg (u8s (wayOr sec z s e C.toNat V.toNat)).toArray) ∧ Below w.heap.size w w' := by
  by_cases h : z = 0 ∨ z = 1
  · rw [wayOr, if_pos h]
    have hz : (z.toNat : Int) = z := by omega
    have := way_any sec base g z.toNat s e C V w hr h1 h2 (by omega) hs he hk hst
    rwa [hz] at this
  · rw [wayOr, if_neg h]
    exact way_bad z (by simp; omega) (by simp; omega) _ _ _ _ _ w
theorem wayOrF_any (sec : List UInt8) (SA : Option Addr) (sn sc : Nat) (z : Int) (s e : Nat) (C V : BitVec 64) (w : World) (hsec : BytesIn w w.heap.size SA sn sec) (h1 : 1 ≤ sn) (h2 : sn ≤ 64) (hs : s < 4294967296) (he : e < 4294967296) (hsq : Squares w) (hcu : Cubes w) :
    Calls Tryd.prog 41 #[.slice SA sn sc, .int .i64 z, .int .u32 (s : Int), .int .u32 (e : Int), .int .u64 (n64 C), .int .u64 (n64 V)] w fun e' w' => e' = .returned (.agg (u8s (wayOr sec z s e C.toNat V.toNat)).toArray) ∧ Below w.heap.size w w' := by
  by_cases h : z = 0 ∨ z = 1
  · rw [wayOr, if_pos h]
    have hz : (z.toNat : Int) = z := by omega
    have := wayF_any sec SA sn sc z.toNat s e C V w hsec h1 h2 (by omega) hs he hsq hcu
    rwa [hz] at this
  · rw [wayOr, if_neg h]
    exact wayF_bad _ z (by omega) _ _ _ _ w

theorem eq_self32 (l : List UInt8) (hl : l.length = 32) (w : World) : (binOp .eql 43 (.agg (u8s l).toArray) (.agg (u8s l).toArray)).run Tryd.prog w = .ok (.bool true) w := by
  have := eql_key l l hl hl w
  rwa [show (l == l) = true by simp] at this

set_option maxRecDepth 100000 in
set_option maxHeartbeats 8000000 in
theorem rings_walk (sec0 : List UInt8) (z : Int) (s e : Nat) (C V : BitVec 64) (SA : Option Addr) (sn sc : Nat) (w : World) (hsec : BytesIn w w.heap.size SA sn sec0) (hsn : sn ≤ sc) (hsc : sc ≤ maxLen) (hs : s < 4294967296) (he : e < 4294967296) (hk : Consts w) (hst : Starts w) (hsq : Squares w) (hcu : Cubes w) :
    Calls Tryd.prog 10 #[.slice SA sn sc, .agg #[.int .i64 z, .int .u32 (s : Int), .int .u32 (e : Int), .int .u64 (n64 C), .int .u64 (n64 V)]] w fun e' w' => e' = .returned (.bool true) ∧ Below w.heap.size w w' := by
  obtain ⟨sm, hsm⟩ : ∃ sm, sm = min sn 80 := ⟨_, rfl⟩
  obtain ⟨sec, hsc'⟩ : ∃ sec, sec = sec0.take sm := ⟨_, rfl⟩
  have hsmc : sm ≤ sc := by omega
  have hsm80 : sm ≤ 80 := by omega
  have b5 : (sm : Int) ≤ sc := by omega
  have b1 : (sn : Int) ≤ sc := by omega
  have b2 : (sc : Int) ≤ 9223372036854775807 := by unfold maxLen at hsc; omega
  obtain ⟨b3, hb3⟩ : ∃ b3, b3 = w.heap.size := ⟨_, rfl⟩
  obtain ⟨W0, hW0⟩ : ∃ W0 : World, W0 = w.alloc (.cells #[.int .i64 z, .int .u32 (s : Int), .int .u32 (e : Int), .int .u64 (n64 C), .int .u64 (n64 V)] 68) := ⟨_, rfl⟩
  have hbw0 : Below w.heap.size w W0 := by rw [hW0]; exact (Below.refl _ w).alloc (Nat.le_refl _) _
  have HT0 : Hid (Row W0 b3 68 #[.int .i64 z, .int .u32 (s : Int), .int .u32 (e : Int), .int .u64 (n64 C), .int .u64 (n64 V)]) := show Row _ _ _ _ by rw [hW0, hb3]; exact Row.new w _ _
  have HSEC0 : Hid (BytesIn W0 W0.heap.size SA sm sec) := show BytesIn _ _ _ _ _ by rw [hsc']; exact ((hsec.below hbw0).more hbw0.size).take _ (by omega)
  have HC0 : Hid (Consts W0) := hk.below hbw0
  have HS0 : Hid (Starts W0) := hst.below hbw0
  have HSQ0 : Hid (Squares W0) := hsq.below hbw0
  have HCU0 : Hid (Cubes W0) := hcu.below hbw0
  have HBW0 : Hid (Below w.heap.size w W0) := hbw0
  have HSM := Lib.hid hsm
  have HW0 := Lib.hid hW0
  have HB3 := Lib.hid hb3
  clear hsec hk hst hsq hcu hsm hW0 hb3 hsc' hbw0
  have HSL : Hid (sec.length = sm) := HSEC0.out.1
  go_enter Tryd.func10, Tryd.ntmps10
  go_upto_region 1 with (fail)
  rw [← HW0.out, ← HB3.out]
  go_upto_region 3 with (first
    | ((with_reducible show wpList _ _ _ (⟨some 14, _, _, _, _, _⟩ :: _) _ _); refine wpList_val rfl (.int .i64 (sm : Int)) (by go_simp; have := HSM.out; split <;> omega) ?_)
    | ((with_reducible show wpList _ _ _ (⟨some 17, _, _, _, _, _⟩ :: _) _ _); refine wpList_append_bytes (v := .slice none 0 0) (l := []) rfl _ (.tmp 16) rfl rfl (OwnB.nil W0 W0.heap.size) rfl HSEC0.out (by simp; omega) (Nat.le_refl _) ?_; intro A5 c5 w2 hown5 hgrow5 hblk5; rw [List.length_nil, Nat.zero_add]; rw [List.length_nil, Nat.zero_add, List.nil_append] at hown5))
  have hb2 : Below W0.heap.size W0 w2 := (Below.refl _ _).grown hgrow5.out (Nat.le_refl _) (fun k eq => by cases eq)
  have HB2 := Lib.hid hb2
  have hs2 := hb2.size
  clear hgrow5 hblk5 hb2 HW0 HB3
  by_cases hmay : 1 ≤ sm ∧ sm ≤ 64
  · obtain ⟨m1, m2⟩ := hmay
    have HNW := Lib.hid (ringNew_yes sec A5 sm c5 w2 (OwnB.bytes hown5.out) m1 m2)
    go_wp2_with fail
    refine HNW.out.mono ?_
    rintro e6 w3 ⟨g6, rfl, hr3, hb3'⟩
    obtain ⟨g5, rfl, hg5⟩ := OwnB.head hown5.out (by omega)
    have hg5s := (hown5.out.lt g5 rfl).2
    have HO3 : Hid (OwnB w3 W0.heap.size (.slice (some ⟨g5, 0, none⟩) sm c5) sec) := show OwnB _ _ _ _ from hown5.out.below hb3'
    have HR3 := Lib.hid hr3
    have HB23 : Hid (Below W0.heap.size W0 w3) := HB2.out.trans (hb3'.mono hs2)
    clear hr3 hb3' HNW hown5
    go_wp2_with fail
    go_loopw [25] (fun i wr => ∃ (k : Nat) (l : List UInt8), k ≤ sm ∧ i = .int .i64 k ∧ l.length = sm ∧ OwnB wr W0.heap.size (.slice (some ⟨g5, 0, none⟩) sm c5) l ∧ RingAt wr w2.heap.size g6 sec ∧ Below W0.heap.size W0 wr) (fun i _ => sm - (intOf i).toNat)
    case atStart => exact ⟨0, sec, by omega, rfl, HSL.out, HO3.out, HR3.out, HB23.out⟩
    case round =>
      obtain ⟨k, l, hk, rfl, hl, hown, hring, hbel⟩ := hrel
      by_cases hlt : k < sm
      · obtain ⟨c, hc⟩ : ∃ c, c = l.getD k 0 := ⟨_, rfl⟩
        obtain ⟨q, o, eq, hq, hcell⟩ := (OwnB.bytes hown).2 (by omega)
        injection eq with eq
        injection eq with e1 e2
        subst e1 e2
        have hck := hcell k hlt
        rw [Nat.zero_add, ← hc] at hck
        have hf := hown.free k
        have c0 := (n8_bd c).1
        have c1 := (n8_bd c).2
        have hx : (n8 c + 1) % 256 = n8 (UInt8.ofNat (c.toNat + 1)) := by rw [← n8_ofNat]; unfold n8; omega
        have HX := Lib.hid hx
        have HOW := Lib.hid hown
        have HRI := Lib.hid hring
        have HBE := Lib.hid hbel
        have HL := Lib.hid hl
        have k0 : (0 : Int) ≤ k := by omega
        have k1 : (k : Int) < sm := by omega
        clear hown hring hbel hc hcell hx hl hq
        go_wp2_with fail
        go_roundw
        case rel =>
          refine ⟨k + 1, l.set k (UInt8.ofNat (c.toNat + 1)), by omega, by go_num, by rw [List.length_set]; exact HL.out, ?_, ?_, ?_⟩
          · rw [HX.out]; exact HOW.out.setByte (by rw [HL.out]; exact hlt) _
          · exact HRI.out.set (p := ⟨g5, k, none⟩) hg5s _
          · exact HBE.out.setCell (p := ⟨g5, k, none⟩) hg5 _
        case measure => simp [intOf]; omega
      · obtain rfl : k = sm := by omega
        have HRI := Lib.hid hring
        have HBE := Lib.hid hbel
        have hm := fun w => mayF_yes SA k sc m1 m2 w
        have HM := Lib.hid hm
        have hd := deriveF_ok sec SA k sc hello [] none 0 0 wr ((HSEC0.out.below hbel).more hbel.size) m1 m2 (by decide) ⟨rfl, fun h => absurd h (by omega)⟩ (by rw [laid_hello]; decide) (by decide) (HSQ0.out.below hbel) (HCU0.out.below hbel)
        obtain ⟨hk', hhk⟩ : ∃ hk', hk' = hmac sec (laidB hello []) := ⟨_, rfl⟩
        have hkl : hk'.length = 32 := by rw [hhk, hmac]; exact sha_length _
        rw [← hhk] at hd
        have HD := Lib.hid hd
        have HHK := Lib.hid hhk
        have HIH := Lib.hid (info_arr hk' hkl)
        have HZ := Lib.hid (zeros32_size hk' hkl)
        have HKL := Lib.hid hkl
        clear hown hring hbel hm hd hhk hkl hl
        go_wp2_with (go_at_call 38; refine (HM.out _).mono ?_; rintro e' w' ⟨rfl, hq⟩; have hq2 := hq.symm; subst hq2; clear hq)
        refine HD.out.mono ?_
        rintro e9 w9 ⟨rfl, hb9⟩
        obtain ⟨g9, hg9⟩ : ∃ g9, g9 = w9.heap.size := ⟨_, rfl⟩
        obtain ⟨X, hX⟩ : ∃ X : World, X = w9.alloc (.cells (u8s hk').toArray 23) := ⟨_, rfl⟩
        have HXX := Lib.hid hX
        have HG9 := Lib.hid hg9
        have hbX : Below wr.heap.size wr X := by rw [hX]; exact hb9.alloc hb9.size _
        have HR9 : Hid (Row X g9 23 (u8s hk').toArray) := show Row _ _ _ _ by rw [hX, hg9]; exact Row.new w9 _ _
        have HBX : Hid (Below W0.heap.size W0 X) := HBE.out.trans (hbX.mono HBE.out.size)
        have HRX : Hid (RingAt X w2.heap.size g6 sec) := HRI.out.below hbX
        have HT3 : Hid (Row X b3 68 #[.int .i64 z, .int .u32 (s : Int), .int .u32 (e : Int), .int .u64 (n64 C), .int .u64 (n64 V)]) := HT0.out.below HBX.out HT0.out.lt
        clear hX hg9 hb9 hbX HD
        go_wp2_with ((with_reducible show wpList _ _ _ (⟨none, .store _ _ _, _, _, _, _⟩ :: _) _ _); go_loud (refine wpList_store_new rfl 23 _ _ rfl 23 _ (u8s hk').toArray rfl rfl HIH.out HZ.out (u8s_all _) ?_))
        rw [← HXX.out, ← HG9.out]
        have lenk : sec.length = k := HSL.out
        obtain ⟨wk, hwk⟩ : ∃ wk, wk = wayOr sec z s e C.toNat V.toNat := ⟨_, rfl⟩
        have hwl : wk.length = 32 := by rw [hwk]; exact wayOr_length ..
        obtain ⟨tk, htk⟩ : ∃ tk, tk = tokenOf sec s e := ⟨_, rfl⟩
        have HHE : Hid (∀ W, Alike X W → Calls Tryd.prog 39 #[.pointer (some ⟨g6, 0, none⟩)] W fun e w' => e = .returned (.agg (u8s hk').toArray) ∧ Below W.heap.size W w') := fun W hW => by
          have hb := HBX.out.trans (Below.mono hW HBX.out.size)
          have := hello_any sec w2.heap.size g6 W (HRX.out.below hW) (by omega) (by omega) (HC0.out.below hb) (HS0.out.below hb)
          rwa [← HHK.out] at this
        have HWY : Hid (∀ W, Alike X W → Calls Tryd.prog 40 #[.pointer (some ⟨g6, 0, none⟩), .int .i64 z, .int .u32 (s : Int), .int .u32 (e : Int), .int .u64 (n64 C), .int .u64 (n64 V)] W fun e w' => e = .returned (.agg (u8s wk).toArray) ∧ Below W.heap.size W w') := fun W hW => by
          have hb := HBX.out.trans (Below.mono hW HBX.out.size)
          have := wayOr_any sec w2.heap.size g6 s e z C V W (HRX.out.below hW) (by omega) (by omega) hs he (HC0.out.below hb) (HS0.out.below hb)
          rwa [← hwk] at this
        have HWF : Hid (∀ W, Alike X W → Calls Tryd.prog 41 #[.slice SA k sc, .int .i64 z, .int .u32 (s : Int), .int .u32 (e : Int), .int .u64 (n64 C), .int .u64 (n64 V)] W fun e w' => e = .returned (.agg (u8s wk).toArray) ∧ Below W.heap.size W w') := fun W hW => by
          have hb := HBX.out.trans (Below.mono hW HBX.out.size)
          have := wayOrF_any sec SA k sc z s e C V W ((HSEC0.out.below hb).more hb.size) m1 m2 hs he (HSQ0.out.below hb) (HCU0.out.below hb)
          rwa [← hwk] at this
        have HTK : Hid (∀ W, Alike X W → Calls Tryd.prog 42 #[.pointer (some ⟨g6, 0, none⟩), .int .u32 (s : Int), .int .u32 (e : Int)] W fun e w' => e = .returned (.int .u64 (tk : Nat)) ∧ Below W.heap.size W w') := fun W hW => by
          have hb := HBX.out.trans (Below.mono hW HBX.out.size)
          have := token_any sec w2.heap.size g6 s e W (HRX.out.below hW) (by omega) (by omega) hs he (HC0.out.below hb) (HS0.out.below hb)
          rwa [← htk] at this
        have HTF : Hid (∀ W, Alike X W → Calls Tryd.prog 43 #[.slice SA k sc, .int .u32 (s : Int), .int .u32 (e : Int)] W fun e w' => e = .returned (.int .u64 (tk : Nat)) ∧ Below W.heap.size W w') := fun W hW => by
          have hb := HBX.out.trans (Below.mono hW HBX.out.size)
          have := tokenF_any sec SA k sc s e W ((HSEC0.out.below hb).more hb.size) m1 m2 hs he (HSQ0.out.below hb) (HCU0.out.below hb)
          rwa [← htk] at this
        have HWA : Hid (∀ W, Alike X W → Calls Tryd.prog 27 #[] W fun e w' => e = .returned (.bool true) ∧ Below W.heap.size W w') := fun W hW => by
          have hb := HBX.out.trans (Below.mono hW HBX.out.size)
          exact wakes_any W (HC0.out.below hb) (HS0.out.below hb)
        have HEH := Lib.hid (eq_self32 hk' HKL.out)
        have HEW := Lib.hid (eq_self32 wk hwl)
        clear hwk htk lenk
        refine wp_region_alike (by kernel_rfl) (by kernel_rfl) ?_
        go_simp
        refine q_move (some 52) (.int .i64 0) _ rfl rfl rfl rfl ?_
        go_simp
        refine q_val (some 53) (.bool true) rfl rfl (fun w _ => by go_simp) ?_
        go_simp
        refine q_move (some 54) (.bool true) _ rfl rfl rfl rfl ?_
        go_simp
        refine q_move (some 55) (.pointer (some ⟨g6, 0, none⟩)) _ rfl rfl rfl rfl ?_
        go_simp
        refine q_call (some 56) (.agg (u8s hk').toArray) 39 #[.pointer (some ⟨g6, 0, none⟩)] rfl rfl (fun w => by go_simp) HHE.out ?_
        go_simp
        refine q_load_row (some 57) 23 _ g9 23 (u8s hk').toArray _ rfl rfl rfl rfl HR9.out Tryd.underlying23 rfl HIH.out ?_
        go_simp
        refine q_val (some 58) (.bool true) rfl rfl (fun w hw => by have he := HEH.out; go_simp) ?_
        go_simp
        refine q_val (some 59) (.bool true) rfl rfl (fun w _ => by go_simp) ?_
        go_simp
        refine q_move (some 60) (.bool true) _ rfl rfl rfl rfl ?_
        go_simp
        refine q_move (some 61) (.pointer (some ⟨g6, 0, none⟩)) _ rfl rfl rfl rfl ?_
        go_simp
        refine q_val (some 62) (.pointer (some ⟨b3, 0, none⟩)) rfl rfl (fun w _ => by go_simp) ?_
        go_simp
        refine q_val (some 63) (.int .i64 z) rfl rfl (fun w hw => by have hc := (hw.row HT3.out).cell 0; go_simp) ?_
        go_simp
        refine q_val (some 64) (.pointer (some ⟨b3, 1, none⟩)) rfl rfl (fun w _ => by go_simp) ?_
        go_simp
        refine q_val (some 65) (.int .u32 (s : Int)) rfl rfl (fun w hw => by have hc := (hw.row HT3.out).cell 1; go_simp) ?_
        go_simp
        refine q_val (some 66) (.pointer (some ⟨b3, 2, none⟩)) rfl rfl (fun w _ => by go_simp) ?_
        go_simp
        refine q_val (some 67) (.int .u32 (e : Int)) rfl rfl (fun w hw => by have hc := (hw.row HT3.out).cell 2; go_simp) ?_
        go_simp
        refine q_val (some 68) (.pointer (some ⟨b3, 3, none⟩)) rfl rfl (fun w _ => by go_simp) ?_
        go_simp
        refine q_val (some 69) (.int .u64 (n64 C)) rfl rfl (fun w hw => by have hc := (hw.row HT3.out).cell 3; go_simp) ?_
        go_simp
        refine q_val (some 70) (.pointer (some ⟨b3, 4, none⟩)) rfl rfl (fun w _ => by go_simp) ?_
        go_simp
        refine q_val (some 71) (.int .u64 (n64 V)) rfl rfl (fun w hw => by have hc := (hw.row HT3.out).cell 4; go_simp) ?_
        go_simp
        refine q_call (some 72) (.agg (u8s wk).toArray) 40 #[.pointer (some ⟨g6, 0, none⟩), .int .i64 z, .int .u32 (s : Int), .int .u32 (e : Int), .int .u64 (n64 C), .int .u64 (n64 V)] rfl rfl (fun w => by go_simp) HWY.out ?_
        go_simp
        refine q_move (some 73) (.slice SA k sc) _ rfl rfl rfl rfl ?_
        go_simp
        refine q_val (some 74) (.pointer (some ⟨b3, 0, none⟩)) rfl rfl (fun w _ => by go_simp) ?_
        go_simp
        refine q_val (some 75) (.int .i64 z) rfl rfl (fun w hw => by have hc := (hw.row HT3.out).cell 0; go_simp) ?_
        go_simp
        refine q_val (some 76) (.pointer (some ⟨b3, 1, none⟩)) rfl rfl (fun w _ => by go_simp) ?_
        go_simp
        refine q_val (some 77) (.int .u32 (s : Int)) rfl rfl (fun w hw => by have hc := (hw.row HT3.out).cell 1; go_simp) ?_
        go_simp
        refine q_val (some 78) (.pointer (some ⟨b3, 2, none⟩)) rfl rfl (fun w _ => by go_simp) ?_
        go_simp
        refine q_val (some 79) (.int .u32 (e : Int)) rfl rfl (fun w hw => by have hc := (hw.row HT3.out).cell 2; go_simp) ?_
        go_simp
        refine q_val (some 80) (.pointer (some ⟨b3, 3, none⟩)) rfl rfl (fun w _ => by go_simp) ?_
        go_simp
        refine q_val (some 81) (.int .u64 (n64 C)) rfl rfl (fun w hw => by have hc := (hw.row HT3.out).cell 3; go_simp) ?_
        go_simp
        refine q_val (some 82) (.pointer (some ⟨b3, 4, none⟩)) rfl rfl (fun w _ => by go_simp) ?_
        go_simp
        refine q_val (some 83) (.int .u64 (n64 V)) rfl rfl (fun w hw => by have hc := (hw.row HT3.out).cell 4; go_simp) ?_
        go_simp
        refine q_call (some 84) (.agg (u8s wk).toArray) 41 #[.slice SA k sc, .int .i64 z, .int .u32 (s : Int), .int .u32 (e : Int), .int .u64 (n64 C), .int .u64 (n64 V)] rfl rfl (fun w => by go_simp) HWF.out ?_
        go_simp
        refine q_val (some 85) (.bool true) rfl rfl (fun w hw => by have he := HEW.out; go_simp) ?_
        go_simp
        refine q_val (some 86) (.bool true) rfl rfl (fun w _ => by go_simp) ?_
        go_simp
        refine q_move (some 87) (.bool true) _ rfl rfl rfl rfl ?_
        go_simp
        refine q_move (some 88) (.pointer (some ⟨g6, 0, none⟩)) _ rfl rfl rfl rfl ?_
        go_simp
        refine q_val (some 89) (.pointer (some ⟨b3, 1, none⟩)) rfl rfl (fun w _ => by go_simp) ?_
        go_simp
        refine q_val (some 90) (.int .u32 (s : Int)) rfl rfl (fun w hw => by have hc := (hw.row HT3.out).cell 1; go_simp) ?_
        go_simp
        refine q_val (some 91) (.pointer (some ⟨b3, 2, none⟩)) rfl rfl (fun w _ => by go_simp) ?_
        go_simp
        refine q_val (some 92) (.int .u32 (e : Int)) rfl rfl (fun w hw => by have hc := (hw.row HT3.out).cell 2; go_simp) ?_
        go_simp
        refine q_call (some 93) (.int .u64 (tk : Nat)) 42 #[.pointer (some ⟨g6, 0, none⟩), .int .u32 (s : Int), .int .u32 (e : Int)] rfl rfl (fun w => by go_simp) HTK.out ?_
        go_simp
        refine q_move (some 94) (.slice SA k sc) _ rfl rfl rfl rfl ?_
        go_simp
        refine q_val (some 95) (.pointer (some ⟨b3, 1, none⟩)) rfl rfl (fun w _ => by go_simp) ?_
        go_simp
        refine q_val (some 96) (.int .u32 (s : Int)) rfl rfl (fun w hw => by have hc := (hw.row HT3.out).cell 1; go_simp) ?_
        go_simp
        refine q_val (some 97) (.pointer (some ⟨b3, 2, none⟩)) rfl rfl (fun w _ => by go_simp) ?_
        go_simp
        refine q_val (some 98) (.int .u32 (e : Int)) rfl rfl (fun w hw => by have hc := (hw.row HT3.out).cell 2; go_simp) ?_
        go_simp
        refine q_call (some 99) (.int .u64 (tk : Nat)) 43 #[.slice SA k sc, .int .u32 (s : Int), .int .u32 (e : Int)] rfl rfl (fun w => by go_simp) HTF.out ?_
        go_simp
        refine q_val (some 100) (.bool true) rfl rfl (fun w _ => by go_simp) ?_
        go_simp
        refine q_val (some 101) (.bool true) rfl rfl (fun w _ => by go_simp) ?_
        go_simp
        refine q_move (some 102) (.bool true) _ rfl rfl rfl rfl ?_
        go_simp
        refine q_call (some 103) (.bool true) 27 #[] rfl rfl (fun w => by go_simp) HWA.out ?_
        go_simp
        refine q_val (some 104) (.bool true) rfl rfl (fun w _ => by go_simp) ?_
        go_simp
        refine q_assign (some 4) (.bool true) _ rfl rfl rfl rfl ?_
        go_simp
        refine wpQuiet_nil ?_
        intro wz hz
        have HBZ : Hid (Below w.heap.size w wz) := HBW0.out.trans ((HBX.out.trans (Below.mono hz HBX.out.size)).mono HBW0.out.size)
        clear hz
        go_wp2_with fail
        go_ret
        exact ⟨rfl, HBZ.out⟩
  · have hno : sm = 0 ∨ 64 < sm := by omega
    have HNW := Lib.hid (ringNew_no A5 sm c5 w2 hno)
    have HO5 := hown5
    have hm := fun w => mayF_no SA sm sc hno w
    have HM := Lib.hid hm
    clear hm hown5 hmay hno
    go_wp2_with (go_at_call 37; refine HNW.out.mono ?_; rintro e' w' ⟨rfl, hq⟩; have hq2 := hq.symm; subst hq2; clear hq)
    go_loopw [25] (fun i wr => ∃ (k : Nat) (l : List UInt8), k ≤ sm ∧ i = .int .i64 k ∧ l.length = sm ∧ OwnB wr W0.heap.size (.slice A5 sm c5) l ∧ Below W0.heap.size W0 wr) (fun i _ => sm - (intOf i).toNat)
    case atStart => exact ⟨0, sec, by omega, rfl, HSL.out, HO5.out, HB2.out⟩
    case round =>
      obtain ⟨k, l, hk, rfl, hl, hown, hbel⟩ := hrel
      by_cases hlt : k < sm
      · obtain ⟨c, hc⟩ : ∃ c, c = l.getD k 0 := ⟨_, rfl⟩
        obtain ⟨g5, rfl, hg5⟩ := OwnB.head hown (by omega)
        obtain ⟨q, o, eq, hq, hcell⟩ := (OwnB.bytes hown).2 (by omega)
        injection eq with eq
        injection eq with e1 e2
        subst e1 e2
        have hck := hcell k hlt
        rw [Nat.zero_add, ← hc] at hck
        have hf := hown.free k
        have c0 := (n8_bd c).1
        have c1 := (n8_bd c).2
        have hx : (n8 c + 1) % 256 = n8 (UInt8.ofNat (c.toNat + 1)) := by rw [← n8_ofNat]; unfold n8; omega
        have HX := Lib.hid hx
        have HOW := Lib.hid hown
        have HBE := Lib.hid hbel
        have HL := Lib.hid hl
        have k0 : (0 : Int) ≤ k := by omega
        have k1 : (k : Int) < sm := by omega
        clear hown hbel hc hcell hx hl hq
        go_wp2_with fail
        go_roundw
        case rel =>
          refine ⟨k + 1, l.set k (UInt8.ofNat (c.toNat + 1)), by omega, by go_num, by rw [List.length_set]; exact HL.out, ?_, ?_⟩
          · rw [HX.out]; exact HOW.out.setByte (by rw [HL.out]; exact hlt) _
          · exact HBE.out.setCell (p := ⟨g5, k, none⟩) hg5 _
        case measure => simp [intOf]; omega
      · obtain rfl : k = sm := by omega
        have HBE := Lib.hid hbel
        have HWK := Lib.hid (wakes_any wr (HC0.out.below hbel) (HS0.out.below hbel))
        clear hown hbel hl
        go_wp2_with (first | (go_at_call 38; refine (HM.out _).mono ?_; rintro e' w' ⟨rfl, hq⟩; have hq2 := hq.symm; subst hq2; clear hq) | (go_at_call 27; refine HWK.out.mono ?_; rintro e' wz ⟨rfl, hbz⟩))
        go_ret
        exact ⟨rfl, HBW0.out.trans ((HBE.out.trans (hbz.mono HBE.out.size)).mono HBW0.out.size)⟩
end Go.Proofs.YtgejndannlfhkaaDoor
