/- The walk of longwireref02.Hmac. No condition but sizes. -/
import Derived.Test.YtgejndannlfhkaaDoorRefB
import Derived.Test.YtgejndannlfhkaaDoorHmac
import Derived.Deep.DeepCutAuto
import Derived.Deep.CutRange
namespace Go.Proofs.YtgejndannlfhkaaDoor
open Go Go.RowKit Go.Shelf

/-- The first k bytes copied. -/
def copyB (src z : List UInt8) : Nat → List UInt8
  | 0 => z
  | k + 1 => (copyB src z k).set k (src.getD k 0)
theorem copyB_length (src z : List UInt8) : ∀ k, (copyB src z k).length = z.length
  | 0 => rfl
  | k + 1 => by rw [copyB, List.length_set]; exact copyB_length src z k
theorem copyB_get (src z : List UInt8) : ∀ k i, i < z.length → (copyB src z k)[i]? = if i < k then some (src.getD i 0) else z[i]?
  | 0, i, h => by simp [copyB]
  | k + 1, i, h => by
    rw [copyB]
    by_cases e : k = i
    · subst e; rw [List.getElem?_set_self (by rw [copyB_length]; exact h), if_pos (by omega)]
    · rw [List.getElem?_set_ne e, copyB_get src z k i h]
      by_cases h1 : i < k
      · rw [if_pos h1, if_pos (by omega)]
      · rw [if_neg h1, if_neg (by omega)]
theorem copyB_block (src : List UInt8) (h : src.length ≤ 64) : copyB src (List.replicate 64 0) src.length = block64 src := by
  apply List.ext_getElem?
  intro i
  by_cases hi : i < 64
  · rw [copyB_get _ _ _ _ (by simp; exact hi), block64, List.take_of_length_le h, List.getElem?_append]
    split
    · rename_i h1; simp [List.getD, h1]
    · rename_i h1; rw [List.getElem?_replicate, List.getElem?_replicate, if_pos hi, if_pos (by omega)]
  · rw [List.getElem?_eq_none (by rw [copyB_length]; simp; omega), List.getElem?_eq_none (by rw [block64_length]; omega)]
theorem take_xor (l : List UInt8) (x : UInt8) (k : Nat) (h : k < l.length) : (l.take (k + 1)).map (· ^^^ x) = (l.take k).map (· ^^^ x) ++ [l.getD k 0 ^^^ x] := by
  rw [List.take_add_one, List.map_append, List.getElem?_eq_getElem h]; simp [List.getD, h]
theorem take_one (l : List UInt8) (k : Nat) (h : k < l.length) : l.take (k + 1) = l.take k ++ [l.getD k 0] := by
  rw [List.take_add_one, List.getElem?_eq_getElem h]; simp [List.getD, h]

set_option maxRecDepth 100000 in
set_option maxHeartbeats 4000000 in
theorem refhmac_any (key b : List UInt8) (KA : Option Addr) (kn kc : Nat) (BA : Option Addr) (bn bc : Nat) (w : World) (hkey : BytesIn w w.heap.size KA kn key) (hkn : kn ≤ 1000000) (hb : BytesIn w w.heap.size BA bn b) (hbn : bn ≤ 1000000) (hsq : Squares w) (hcu : Cubes w) :
    Calls Tryd.prog 15 #[.slice KA kn kc, .slice BA bn bc] w fun e w' => e = .returned (.agg (u8s (hmac key b)).toArray) ∧ Below w.heap.size w w' := by
  have HK := Lib.hid hkey
  have HB := Lib.hid hb
  have HSQ := Lib.hid hsq
  have HCU := Lib.hid hcu
  have HKL : Hid (key.length = kn) := hkey.1
  have HBL : Hid (b.length = bn) := hb.1
  obtain ⟨W1, hW1⟩ : ∃ W1 : World, W1 = (w.alloc (.cells (u8s (List.replicate 32 0)).toArray 23)).alloc (.cells (u8s (List.replicate 64 0)).toArray 97) := ⟨_, rfl⟩
  have hs1 : W1.heap.size = w.heap.size + 2 := by rw [hW1]; simp
  have hra : Row W1 w.heap.size 23 (u8s (List.replicate 32 0)).toArray := by rw [hW1]; exact (Row.new w _ _).alloc _
  have hrb : Row W1 (w.heap.size + 1) 97 (u8s (List.replicate 64 0)).toArray := by
    have := Row.new (w.alloc (.cells (u8s (List.replicate 32 0)).toArray 23)) 97 (u8s (List.replicate 64 0)).toArray
    rw [World.size_alloc] at this
    rw [hW1]; exact this
  have hb1 : Below w.heap.size w W1 := by rw [hW1]; exact ((Below.refl _ w).alloc (Nat.le_refl _) _).alloc (by simp) _
  have HW1 := Lib.hid hW1
  have HS1 := Lib.hid hs1
  have HRA := Lib.hid hra
  have HRB := Lib.hid hrb
  have HB1 := Lib.hid hb1
  clear hkey hb hsq hcu hW1 hs1 hra hrb hb1
  go_enter Tryd.func15, Tryd.ntmps15
  go_upto_if 16 with (fail)
  change Code.wp _ _ _ _ ((w.alloc (.cells (u8s (List.replicate 32 0)).toArray 23)).alloc (.cells (u8s (List.replicate 64 0)).toArray 97))
  rw [← HW1.out]
  obtain ⟨gk, hgk⟩ : ∃ gk, gk = w.heap.size + 1 := ⟨_, rfl⟩
  have HGK := Lib.hid hgk
  rw [← hgk]
  rw [← hgk] at HRB
  have hgk1 : gk < W1.heap.size := HRB.out.lt
  clear hgk HW1
  go_cut [6, 7, 8] (fun _ _ _ wx => Row wx gk 97 (u8s (block64 (shortKey key))).toArray ∧ Below gk W1 wx)
  case first =>
    by_cases h64 : 64 < kn
    · have hsk : shortKey key = sha key := by rw [shortKey, if_pos (by have := HKL.out; omega)]
      have hrs := refsha_any key KA kn kc W1 (by omega) ((HK.out.below HB1.out).more HB1.out.size) (HSQ.out.below HB1.out) (HCU.out.below HB1.out)
      obtain ⟨hh, hhh⟩ : ∃ hh, hh = sha key := ⟨_, rfl⟩
      rw [← hhh] at hrs hsk
      have hhl : hh.length = 32 := by rw [hhh]; exact sha_length _
      have HRS := Lib.hid hrs
      have HSK := Lib.hid hsk
      have hih : (Tryd.prog.info? 23).map (·.size) = some (u8s hh).toArray.size := by rw [List.size_toArray, u8s_length, hhl]; kernel_rfl
      have HIH := Lib.hid hih
      have hzs : (u8s (List.replicate 32 0)).toArray.size = (u8s hh).toArray.size := by rw [List.size_toArray, List.size_toArray, u8s_length, u8s_length, hhl]; rfl
      have HZS := Lib.hid hzs
      clear hrs hsk hhh hih hzs
      go_wp2_with (first | ((with_reducible show wpList _ _ _ (⟨none, .store _ _ _, _, _, _, _⟩ :: _) _ _); go_loud (refine wpList_store_new rfl 23 _ _ rfl 23 _ (u8s hh).toArray rfl rfl HIH.out HZS.out (u8s_all _) ?_)) | (go_at_call 13; go_loud (refine HRS.out.mono ?_); rintro e w2 ⟨rfl, hb2⟩))
      obtain ⟨g6, hg6⟩ : ∃ g6, g6 = w2.heap.size := ⟨_, rfl⟩
      obtain ⟨W3, hW3⟩ : ∃ W3 : World, W3 = w2.alloc (.cells (u8s hh).toArray 23) := ⟨_, rfl⟩
      have hr6 : Row W3 g6 23 (u8s hh).toArray := by rw [hW3, hg6]; exact Row.new w2 _ _
      have hb3 : Below W1.heap.size W1 W3 := by rw [hW3]; exact hb2.alloc hb2.size _
      have hrk : Row W3 gk 97 (u8s (copyB hh (List.replicate 64 0) 0)).toArray := HRB.out.below hb3 hgk1
      have hkg : gk < g6 := by have := hb2.size; omega
      rw [← hW3, ← hg6]
      have HR6 := Lib.hid hr6
      have HB3 := Lib.hid hb3
      have HRK := Lib.hid hrk
      have hne : gk ≠ g6 := by omega
      clear hg6 hW3 hr6 hb3 hb2 hrk HRS HIH HZS
      go_loopw [7] (fun i wx => ∃ k : Nat, k ≤ 32 ∧ i = .int .i64 k ∧ Row wx gk 97 (u8s (copyB hh (List.replicate 64 0) k)).toArray ∧ Row wx g6 23 (u8s hh).toArray ∧ Below gk W1 wx) (fun i _ => 32 - (intOf i).toNat)
      case atStart => exact ⟨0, by omega, rfl, HRK.out, HR6.out, HB3.out.mono (by omega)⟩
      case round =>
        obtain ⟨k, hk, rfl, hrow, hrh, hbel⟩ := hrel
        have HR := Lib.hid hrow
        have HH := Lib.hid hrh
        have HB' := Lib.hid hbel
        by_cases hlt : k < 32
        · obtain ⟨x, hx⟩ : ∃ x, x = hh.getD k 0 := ⟨_, rfl⟩
          have c6 : wr.cell? ⟨g6, k, none⟩ = some (.int .u8 (n8 x)) := by rw [hx, hrh.cell, List.getElem?_toArray]; exact u8s_get _ _ (by omega)
          have ck : wr.cell? ⟨gk, k, none⟩ = some (.int .u8 (n8 ((copyB hh (List.replicate 64 0) k).getD k 0))) := by rw [hrow.cell, List.getElem?_toArray]; exact u8s_get _ _ (by rw [copyB_length]; simp; omega)
          have fk : wr.frozen? ⟨gk, k, none⟩ = false := hrow.free k
          have hn : copyB hh (List.replicate 64 0) (k + 1) = (copyB hh (List.replicate 64 0) k).set k x := by rw [copyB, ← hx]
          have HN := Lib.hid hn
          have q0 : (0 : Int) ≤ k := by omega
          have q1 : (k : Int) < 32 := by omega
          clear hrow hrh hbel hx hn
          go_wp2_with fail
          go_roundw
          case rel =>
            refine ⟨k + 1, by omega, by go_num, ?_, HH.out.other (a := ⟨gk, k, none⟩) (Ne.symm hne) _, HB'.out.setCell (p := ⟨gk, k, none⟩) (Nat.le_refl _) _⟩
            rw [HN.out]; exact HR.out.setByte k x
          case measure => simp [intOf]; omega
        · obtain rfl : k = 32 := by omega
          have hfin : Row wr gk 97 (u8s (block64 (shortKey key))).toArray := by
            have := copyB_block hh (by omega)
            rw [hhl] at this
            rw [HSK.out, ← this]; exact hrow
          have HF := Lib.hid hfin
          clear hrow hrh hbel hfin HR HH
          go_wp2_with fail
          go_meet
          exact ⟨HF.out, HB'.out⟩
    · have hsk : shortKey key = key := by rw [shortKey, if_neg (by have := HKL.out; omega)]
      have HSK := Lib.hid hsk
      have hrk : Row W1 gk 97 (u8s (copyB key (List.replicate 64 0) 0)).toArray := HRB.out
      have HRK := Lib.hid hrk
      have hkW : BytesIn W1 (w.heap.size) KA kn key := HK.out.below HB1.out
      have HKW := Lib.hid hkW
      have h64' : (kn : Int) ≤ 64 := by omega
      have hwg : w.heap.size < gk := by have := HGK.out; omega
      clear hsk hrk hkW
      go_wp2_with fail
      go_loopw [8] (fun i wx => ∃ k : Nat, k ≤ kn ∧ i = .int .i64 k ∧ Row wx gk 97 (u8s (copyB key (List.replicate 64 0) k)).toArray ∧ Below gk W1 wx) (fun i _ => kn - (intOf i).toNat)
      case atStart => exact ⟨0, by omega, rfl, HRK.out, Below.refl _ _⟩
      case round =>
        obtain ⟨k, hk, rfl, hrow, hbel⟩ := hrel
        have HR := Lib.hid hrow
        have HB' := Lib.hid hbel
        by_cases hlt : k < kn
        · obtain ⟨g, o, rfl, hg, hc⟩ := HKW.out.2 (by omega)
          obtain ⟨x, hx⟩ : ∃ x, x = key.getD k 0 := ⟨_, rfl⟩
          have c6 : wr.cell? ⟨g, o + k, none⟩ = some (.int .u8 (n8 x)) := by rw [hx]; exact (hbel.cell (p := ⟨g, o + k, none⟩) (by show g < gk; omega)).trans (hc k hlt)
          have ck : wr.cell? ⟨gk, k, none⟩ = some (.int .u8 (n8 ((copyB key (List.replicate 64 0) k).getD k 0))) := by rw [hrow.cell, List.getElem?_toArray]; exact u8s_get _ _ (by rw [copyB_length]; simp; omega)
          have fk : wr.frozen? ⟨gk, k, none⟩ = false := hrow.free k
          have hn : copyB key (List.replicate 64 0) (k + 1) = (copyB key (List.replicate 64 0) k).set k x := by rw [copyB, ← hx]
          have HN := Lib.hid hn
          have q0 : (0 : Int) ≤ k := by omega
          have q1 : (k : Int) < kn := by omega
          clear hrow hbel hx hn hc
          go_wp2_with fail
          go_roundw
          case rel =>
            refine ⟨k + 1, by omega, by go_num, ?_, HB'.out.setCell (p := ⟨gk, k, none⟩) (Nat.le_refl _) _⟩
            rw [HN.out]; exact HR.out.setByte k x
          case measure => simp [intOf]; omega
        · obtain rfl : k = kn := by omega
          have hfin : Row wr gk 97 (u8s (block64 (shortKey key))).toArray := by
            have := copyB_block key (by have := HKL.out; omega)
            rw [HKL.out] at this
            rw [HSK.out, ← this]; exact hrow
          have HF := Lib.hid hfin
          clear hrow hbel hfin HR
          go_wp2_with fail
          go_meet
          exact ⟨HF.out, HB'.out⟩
  case rest =>
  obtain ⟨hrk, hbw⟩ := hcut
  obtain ⟨kb, hkb⟩ : ∃ kb, kb = block64 (shortKey key) := ⟨_, rfl⟩
  have hkbl : kb.length = 64 := by rw [hkb]; exact block64_length _
  rw [← hkb] at hrk
  have HKB := Lib.hid hkb
  have HKBL := Lib.hid hkbl
  have HRK := Lib.hid hrk
  have HBW : Hid (Below gk W1 wc) := hbw
  have HBW2 : Hid (Below w.heap.size w wc) := HB1.out.trans (hbw.mono (by have := HGK.out; omega))
  have HRES : Hid (Row wc w.heap.size 23 (u8s (List.replicate 32 0)).toArray) := HRA.out.below hbw (by have := HGK.out; omega)
  have hgkc : gk < wc.heap.size := hrk.lt
  clear hkb hkbl hrk hbw HRA HRB
  go_wp2_with fail
  go_loopw [9, 10, 11] (fun v9 v10 i wx => ∃ (k : Nat) (A9 A10 : Option Addr) (c9 c10 : Nat), k ≤ 64 ∧ i = .int .i64 k ∧ v9 = .slice A9 k c9 ∧ v10 = .slice A10 k c10 ∧ OwnB wx wc.heap.size (.slice A9 k c9) ((kb.take k).map (· ^^^ 54)) ∧ OwnB wx wc.heap.size (.slice A10 k c10) ((kb.take k).map (· ^^^ 92)) ∧ (∀ q, (Value.slice A9 k c9).ownBlock = some q → (Value.slice A10 k c10).ownBlock ≠ some q) ∧ Below wc.heap.size wc wx) (fun _ _ i _ => 64 - (intOf i).toNat)
  case atStart => exact ⟨0, none, none, 0, 0, by omega, rfl, rfl, rfl, OwnB.nil _ _, OwnB.nil _ _, (fun q h => by cases h), Below.refl _ _⟩
  case round =>
    obtain ⟨k, A9, A10, c9, c10, hk, rfl, rfl, rfl, hi9, ho10, hapart, hbel⟩ := hrel
    have HI := Lib.hid hi9
    have HO := Lib.hid ho10
    have HAP := Lib.hid hapart
    have HB' := Lib.hid hbel
    have hsz := hbel.size
    have hl9 : ((kb.take k).map (· ^^^ 54)).length = k := by rw [List.length_map, List.length_take, HKBL.out]; omega
    have hl10 : ((kb.take k).map (· ^^^ 92)).length = k := by rw [List.length_map, List.length_take, HKBL.out]; omega
    have HL9 := Lib.hid hl9
    have HL10 := Lib.hid hl10
    by_cases hlt : k < 64
    · obtain ⟨x, hx⟩ : ∃ x, x = kb.getD k 0 := ⟨_, rfl⟩
      have ck : ∀ W, Below wc.heap.size wc W → W.cell? ⟨gk, k, none⟩ = some (.int .u8 (n8 x)) := fun W hW => by
        rw [hx]; exact (hW.cell (p := ⟨gk, k, none⟩) hgkc).trans (by rw [HRK.out.cell, List.getElem?_toArray]; exact u8s_get _ _ (by rw [HKBL.out]; exact hlt))
      have ck0 : wr.cell? ⟨gk, k, none⟩ = some (.int .u8 (n8 x)) := ck wr hbel
      have n54 := take_xor kb 54 k (by rw [HKBL.out]; exact hlt)
      have n92 := take_xor kb 92 k (by rw [HKBL.out]; exact hlt)
      rw [← hx] at n54 n92
      have N54 := Lib.hid n54
      have N92 := Lib.hid n92
      have CK := Lib.hid ck
      have x54 : bits .xor .u8 (n8 x) 54 = n8 (x ^^^ 54) := n8_xor x 54
      have x92 : bits .xor .u8 (n8 x) 92 = n8 (x ^^^ 92) := n8_xor x 92
      have X54 := Lib.hid x54
      have X92 := Lib.hid x92
      have q0 : (0 : Int) ≤ k := by omega
      have q1 : (k : Int) < 64 := by omega
      clear hi9 ho10 hapart hbel hl9 hl10 n54 n92 ck x54 x92 hx
      have hk910 : (Value.slice A10 k c10).ownBlock = none ∨ (Value.slice A10 k c10).ownBlock ≠ (Value.slice A9 k c9).ownBlock := by
        cases h10 : (Value.slice A10 k c10).ownBlock with
        | none => exact .inl rfl
        | some q => exact .inr (fun e => HAP.out q e.symm h10)
      have HK910 := Lib.hid hk910
      clear hk910
      go_wp2_with (first
        | ((with_reducible show wpList _ _ _ (⟨some 50, _, _, _, _, _⟩ :: _) _ _); rw [X54.out]; refine wpList_append_bytes (v := .slice A9 k c9) (l := (kb.take k).map (· ^^^ 54)) rfl (.tmp 44) (.tmp 49) rfl rfl (HI.out.alloc _) rfl (bytesIn_one _ _) (by have := HL9.out; omega) (by simp; omega) ?_; rw [HL9.out]; intro A9' c9' w5 hown5 hgrow5 hblk5; have hb5 := (HB'.out.alloc (by omega) (.cells #[.int .u8 (n8 (x ^^^ 54))] 5)).grown hgrow5.out (by simp; omega) (fun q e => (HI.out.lt q e).1); have ck1 := CK.out w5 hb5; have hs5 := hb5.size; have HB5 := Lib.hid hb5; clear hb5)
        | ((with_reducible show wpList _ _ _ (⟨some 57, _, _, _, _, _⟩ :: _) _ _); rw [X92.out]; refine wpList_append_bytes (v := .slice A10 k c10) (l := (kb.take k).map (· ^^^ 92)) rfl (.tmp 51) (.tmp 56) rfl rfl (((HO.out.alloc _).kept hgrow5.out HK910.out).alloc _) rfl (bytesIn_one _ _) (by have := HL10.out; omega) (by simp; omega) ?_; rw [HL10.out]; intro A10' c10' w7 hown7 hgrow7 hblk7))
      go_roundw
      case rel =>
        have hb7 := (HB5.out.alloc hs5 (.cells #[.int .u8 (n8 (x ^^^ 92))] 5)).grown hgrow7.out (by simp; omega) (fun q e => (HO.out.lt q e).1)
        have h9' := hown5.out
        rw [← N54.out] at h9'
        have h10' := hown7.out
        rw [← N92.out] at h10'
        have hg7 := hgrow7.out
        have hne9 : (Value.slice A9' (k + 1) c9').ownBlock = none ∨ (Value.slice A9' (k + 1) c9').ownBlock ≠ (Value.slice A10 k c10).ownBlock := by
          cases h9 : (Value.slice A9' (k + 1) c9').ownBlock with
          | none => exact .inl rfl
          | some q =>
            refine .inr (fun e => ?_)
            rcases hblk5.out with hq | hq
            · exact HAP.out q (hq.symm.trans h9) e.symm
            · have h1 := (HO.out.lt q e.symm).2
              rw [h9] at hq
              injection hq with hq
              simp at hq
              omega
        refine ⟨k + 1, A9', A10', c9', c10', by omega, by go_num, rfl, rfl, (h9'.alloc _).kept hg7 hne9, h10', ?_, hb7⟩
        intro q hq hq10
        rcases hblk7.out with h7 | h7
        · rw [h7] at hq10
          rcases hne9 with hn | hn
          · rw [hn] at hq; cases hq
          · exact hn (hq.trans hq10.symm)
        · rw [h7] at hq10
          injection hq10 with hq10
          have h1 := (h9'.lt q hq).2
          simp at hq10
          omega
      case measure => simp [intOf]; omega
    · obtain rfl : k = 64 := by omega
      rw [show ((64 : Nat) : Int) = 64 from rfl]
      have e54 : (kb.take 64).map (· ^^^ 54) = changed (shortKey key) 54 := by rw [List.take_of_length_le (by rw [HKBL.out]; omega), HKB.out, changed]
      have e92 : (kb.take 64).map (· ^^^ 92) = changed (shortKey key) 92 := by rw [List.take_of_length_le (by rw [HKBL.out]; omega), HKB.out, changed]
      rw [e54] at HI HL9
      rw [e92] at HO HL10
      obtain ⟨ip, hip⟩ : ∃ ip, ip = changed (shortKey key) 54 := ⟨_, rfl⟩
      obtain ⟨op, hop⟩ : ∃ op, op = changed (shortKey key) 92 := ⟨_, rfl⟩
      rw [← hip] at HI HL9
      rw [← hop] at HO HL10
      have hfin : sha (op ++ sha (ip ++ b)) = hmac key b := by rw [hip, hop, hmac]
      have HFIN := Lib.hid hfin
      have hk910 : (Value.slice A10 64 c10).ownBlock = none ∨ (Value.slice A10 64 c10).ownBlock ≠ (Value.slice A9 64 c9).ownBlock := by
        cases h10 : (Value.slice A10 64 c10).ownBlock with
        | none => exact .inl rfl
        | some q => exact .inr (fun e => HAP.out q e.symm h10)
      have HK910 := Lib.hid hk910
      have hbW : Below w.heap.size w wr := HBW2.out.trans (hbel.mono HBW2.out.size)
      have HBW3 := Lib.hid hbW
      have HBb : Hid (BytesIn wr w.heap.size BA bn b) := HB.out.below hbW
      clear hi9 ho10 hapart hbel hl9 hl10 e54 e92 hip hop hfin hk910 hbW hlt hk
      obtain ⟨h1, hh1⟩ : ∃ h1, h1 = sha (ip ++ b) := ⟨_, rfl⟩
      have hl1 : h1.length = 32 := by rw [hh1]; exact sha_length _
      have HH1 := Lib.hid hh1
      have hih : (Tryd.prog.info? 23).map (·.size) = some (u8s h1).toArray.size := by rw [List.size_toArray, u8s_length, hl1]; kernel_rfl
      have HIH := Lib.hid hih
      have hzs : (u8s (List.replicate 32 0)).toArray.size = (u8s h1).toArray.size := by rw [List.size_toArray, List.size_toArray, u8s_length, u8s_length, hl1]; rfl
      have HZS := Lib.hid hzs
      clear hh1 hih hzs
      go_wp2_with (first
        | ((with_reducible show wpList _ _ _ (⟨some 60, _, _, _, _, _⟩ :: _) _ _); refine wpList_append_bytes (v := .slice A9 64 c9) (l := ip) rfl (.tmp 58) (.tmp 59) rfl rfl HI.out rfl HBb.out (by have := HL9.out; omega) hsz ?_; rw [HL9.out]; intro A9' c9' w5 hown5 hgrow5 hblk5; have hb5 := HB'.out.grown hgrow5.out hsz (fun q e => (HI.out.lt q e).1); have hb5w := HBW2.out.trans (hb5.mono HBW2.out.size); have hs5 := hb5.size; have HB5 := Lib.hid hb5; have HB5W := Lib.hid hb5w; clear hb5 hb5w)
        | ((with_reducible show wpList _ _ _ (⟨none, .store _ _ _, _, _, _, _⟩ :: _) _ _); go_loud (refine wpList_store_new rfl 23 _ _ rfl 23 _ (u8s h1).toArray rfl rfl HIH.out HZS.out (u8s_all _) ?_))
        | (go_at_call 13; go_loud (refine (refsha_any (ip ++ b) A9' (64 + bn) c9' w5 (by omega) (OwnB.bytes hown5.out) (HSQ.out.below HB5W.out) (HCU.out.below HB5W.out)).mono ?_); rw [← HH1.out]; rintro e w6 ⟨rfl, hb6⟩))
      obtain ⟨g12, hg12⟩ : ∃ g12, g12 = w6.heap.size := ⟨_, rfl⟩
      obtain ⟨W7, hW7⟩ : ∃ W7 : World, W7 = w6.alloc (.cells (u8s h1).toArray 23) := ⟨_, rfl⟩
      have HR12 : Hid (Row W7 g12 23 (u8s h1).toArray) := show Row _ _ _ _ by rw [hW7, hg12]; exact Row.new w6 _ _
      have hb67 : Below w5.heap.size w5 W7 := by rw [hW7]; exact hb6.alloc hb6.size _
      have HO7 : Hid (OwnB W7 wc.heap.size (.slice A10 64 c10) op) := show OwnB _ _ _ _ from ((HO.out.kept hgrow5.out HK910.out).below hb67)
      have HB7 : Hid (Below wc.heap.size wc W7) := HB5.out.trans (hb67.mono hs5)
      have HBW7 : Hid (Below w.heap.size w W7) := HB5W.out.trans (hb67.mono HB5W.out.size)
      have HAP12 : Hid ((Value.slice A10 64 c10).ownBlock ≠ some g12) := fun e => by
        have h1 := (HO.out.lt _ e).2
        have h2 := hgrow5.out.size
        have h3 := hb6.size
        omega
      have h12 : wc.heap.size ≤ g12 := by have := hb6.size; omega
      have h12s : g12 < W7.heap.size := by rw [hW7, hg12]; simp
      have HG12 := Lib.hid h12
      have HG12S := Lib.hid h12s
      rw [← hW7, ← hg12]
      clear hW7 hg12 hb67 hb6 h12 h12s hown5 hgrow5 hblk5 HI HO HK910 HAP HIH HZS HBb HB5 HB5W HB' hs5 hsz HBW3
      go_loopw [10, 13] (fun v10 i wx => ∃ (k : Nat) (A : Option Addr) (c : Nat), k ≤ 32 ∧ i = .int .i64 k ∧ v10 = .slice A (64 + k) c ∧ OwnB wx wc.heap.size (.slice A (64 + k) c) (op ++ h1.take k) ∧ (Value.slice A (64 + k) c).ownBlock ≠ some g12 ∧ Row wx g12 23 (u8s h1).toArray ∧ Below wc.heap.size wc wx) (fun _ i _ => 32 - (intOf i).toNat)
      case atStart => exact ⟨0, A10, c10, by omega, rfl, rfl, by simpa using HO7.out, HAP12.out, HR12.out, HB7.out⟩
      case round =>
        obtain ⟨k, A, c, hk, rfl, rfl, hown, hap, hrow, hbel⟩ := hrel
        have HOW := Lib.hid hown
        have HAPK := Lib.hid hap
        have HRW := Lib.hid hrow
        have HBL := Lib.hid hbel
        have hz := hbel.size
        have hl : (op ++ h1.take k).length = 64 + k := by rw [List.length_append, HL10.out, List.length_take]; omega
        have HLK := Lib.hid hl
        by_cases hlt : k < 32
        · obtain ⟨x, hx⟩ : ∃ x, x = h1.getD k 0 := ⟨_, rfl⟩
          have ck : wr.cell? ⟨g12, k, none⟩ = some (.int .u8 (n8 x)) := by rw [hx, hrow.cell, List.getElem?_toArray]; exact u8s_get _ _ (by omega)
          have hn : op ++ h1.take (k + 1) = op ++ h1.take k ++ [x] := by rw [take_one h1 k (by omega), ← hx, List.append_assoc]
          have HN := Lib.hid hn
          have q0 : (0 : Int) ≤ k := by omega
          have q1 : (k : Int) < 32 := by omega
          clear hown hap hrow hbel hl hx hn
          go_wp2_with ((with_reducible show wpList _ _ _ (⟨some 71, _, _, _, _, _⟩ :: _) _ _); refine wpList_append_bytes (v := .slice A (64 + k) c) (l := op ++ h1.take k) rfl (.tmp 66) (.tmp 70) rfl rfl (HOW.out.alloc _) rfl (bytesIn_one _ x) (by have := HLK.out; omega) (by simp; omega) ?_; rw [HLK.out]; intro A' c' w9 hown9 hgrow9 hblk9)
          go_roundw
          case rel =>
            have hg12s : g12 < wr.heap.size := HRW.out.lt
            refine ⟨k + 1, A', c', by omega, by go_num, rfl, ?_, ?_, ?_, ?_⟩
            · rw [HN.out]; exact hown9.out
            · rcases hblk9.out with h | h
              · rw [show 64 + (k + 1) = 64 + k + 1 by omega, h]; exact HAPK.out
              · rw [show 64 + (k + 1) = 64 + k + 1 by omega, h]; intro e; injection e with e; simp at e; omega
            · exact (HRW.out.alloc _).of_block (hgrow9.out.block g12 (by simp; omega) (fun e => HAPK.out e.symm))
            · exact (HBL.out.alloc hz _).grown hgrow9.out (by simp; omega) (fun q e => (HOW.out.lt q e).1)
          case measure => simp [intOf]; omega
        · have hk32 : k = 32 := by omega
          have ht : h1.take k = h1 := List.take_of_length_le (by omega)
          rw [ht] at HOW HLK
          have e96 : 64 + k = 96 := by omega
          rw [e96] at HOW ⊢
          have e32 : ((k : Nat) : Int) = 32 := by omega
          rw [e32]
          have hbW : Below w.heap.size w wr := HBW2.out.trans (hbel.mono HBW2.out.size)
          have hres : Row wr w.heap.size 23 (u8s (List.replicate 32 0)).toArray := HRES.out.below hbel (by have := HBW.out.size; have := HS1.out; omega)
          have hsh := refsha_any (op ++ h1) A 96 c wr (by omega) (OwnB.bytes HOW.out) (HSQ.out.below hbW) (HCU.out.below hbW)
          rw [HH1.out, HFIN.out] at hsh
          obtain ⟨out, hout⟩ : ∃ out, out = hmac key b := ⟨_, rfl⟩
          have hol : out.length = 32 := by rw [hout]; exact sha_length _
          rw [← hout] at hsh
          have hi : (Tryd.prog.info? 23).map (·.size) = some (u8s out).toArray.size := by rw [List.size_toArray, u8s_length, hol]; kernel_rfl
          have hz2 : (u8s (List.replicate 32 0)).toArray.size = (u8s out).toArray.size := by rw [List.size_toArray, List.size_toArray, u8s_length, u8s_length, hol]; rfl
          have HSH := Lib.hid hsh
          have HIO := Lib.hid hi
          have HZO := Lib.hid hz2
          have HOUT := Lib.hid hout
          have HBWW := Lib.hid hbW
          have HRESW := Lib.hid hres
          clear hown hap hrow hbel hl hsh hi hz2 hout hbW hres ht e96 e32 hk32
          go_wp2_with fail
          refine HSH.out.mono ?_
          rintro e w9 ⟨rfl, hb9⟩
          have HR9 : Hid (Row w9 w.heap.size 23 (u8s (List.replicate 32 0)).toArray) := HRESW.out.below hb9 HRESW.out.lt
          have HB9 : Hid (Below w.heap.size w w9) := HBWW.out.trans (hb9.mono HBWW.out.size)
          clear hb9 HSH
          go_wp2_with ((with_reducible show wpList _ _ _ (⟨none, .store _ _ _, _, _, _, _⟩ :: _) _ _); go_loud (refine wpList_store_row rfl 23 _ _ rfl w.heap.size (u8s out).toArray rfl rfl 23 _ HR9.out HIO.out HZO.out (u8s_all _) ?_))
          exact bodyPost_ret (results_cell_row rfl _ _ w.heap.size 23 _ (0, 0) _ rfl (Row.setRowSame HR9.out _) Tryd.underlying23 rfl HIO.out) rfl ⟨(by rw [HOUT.out]), below_setRow HB9.out (Nat.le_refl _) _⟩
end Go.Proofs.YtgejndannlfhkaaDoor
