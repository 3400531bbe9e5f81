/- The walk of longwirelaw02.HashParts. -/
import Derived.Test.YtgejndannlfhkaaDoorQuiet
import Derived.Deep.DeepCutAuto
import Derived.Deep.CutRange
namespace Go.Proofs.YtgejndannlfhkaaDoor
open Go Go.RowKit Go.Shelf

/-- The parts as the law cuts them: of the first k. -/
def cutTo (ps : List (List UInt8)) : Nat → List (List UInt8)
  | 0 => []
  | k + 1 => if k < 8 then cutTo ps k ++ [(ps.getD k []).take 80, []] else cutTo ps k

theorem cutTo_bound (ps : List (List UInt8)) : ∀ k, (cutTo ps k).flatten.length ≤ 640 ∧ (cutTo ps k).length ≤ 16 := by
  have h : ∀ k, (cutTo ps k).flatten.length ≤ 80 * min k 8 ∧ (cutTo ps k).length ≤ 2 * min k 8 := by
    intro k
    induction k with
    | zero => simp [cutTo]
    | succ k ih =>
      rw [cutTo]
      split
      · rw [List.flatten_append, List.length_append, List.length_append]
        have : ([(ps.getD k []).take 80, []].flatten).length ≤ 80 := by simp; omega
        simp only [List.length_cons, List.length_nil]
        omega
      · omega
  intro k
  have := h k
  omega

/-- The bytes one by one: the first k. -/
def onesTo (l : List UInt8) : Nat → List (List UInt8)
  | 0 => []
  | k + 1 => onesTo l k ++ [[l.getD k 0]]
theorem onesTo_length (l : List UInt8) : ∀ k, (onesTo l k).length = k
  | 0 => rfl
  | k + 1 => by rw [onesTo, List.length_append, onesTo_length l k]; rfl
theorem onesTo_flat (l : List UInt8) : ∀ k, k ≤ l.length → (onesTo l k).flatten = l.take k
  | 0, _ => by simp [onesTo]
  | k + 1, h => by
    rw [onesTo, List.flatten_append, onesTo_flat l k (by omega), List.take_add_one]
    simp [List.getD, List.getElem?_eq_getElem (show k < l.length by omega)]

theorem SlicesOf.append {w : World} {B : Nat} : ∀ {xs ys : List Value} {ps qs : List (List UInt8)}, SlicesOf w B xs ps → SlicesOf w B ys qs → SlicesOf w B (xs ++ ys) (ps ++ qs)
  | [], _, [], _, _, h => h
  | _ :: _, _, _ :: _, _, h, h' => ⟨h.1, SlicesOf.append h.2 h'⟩
  | [], _, _ :: _, _, h, _ => h.elim
  | _ :: _, _, [], _, h, _ => h.elim

set_option maxRecDepth 100000 in
theorem parts_walk (ps : List (List UInt8)) (key : List UInt8) (A : Option Addr) (n c : Nat) (KA : Option Addr) (kn kc : Nat) (w : World) (hp : PartsIn w w.heap.size A n ps) (hn : n ≤ maxLen) (hkey : BytesIn w w.heap.size KA kn key) (hkn : kn ≤ kc) (hkc : kc ≤ maxLen) (hk : Consts w) (hst : Starts w) :
    Calls Tryd.prog 4 #[.slice A n c, .slice KA kn kc] w fun e w' => e = .returned (.bool true) ∧ Below w.heap.size w w' := by
  have HP := Lib.hid hp
  have HK := Lib.hid hkey
  have HC := Lib.hid hk
  have HS := Lib.hid hst
  clear hp hkey hk hst
  have b1 : (kn : Int) ≤ kc := by omega
  have b2 : (kc : Int) ≤ 9223372036854775807 := by unfold maxLen at hkc; omega
  have b3 : (n : Int) ≤ 9223372036854775807 := by unfold maxLen at hn; omega
  go_enter Tryd.func4, Tryd.ntmps4
  go_upto_region 1 with (fail)
  go_cut [1] (fun s1 wx => s1 = .slice KA (min kn 100) kc ∧ wx = w)
  case first =>
    go_wp2_with fail
    · go_meet
      have hm : min kn 100 = 100 := by omega
      rw [hm]; exact ⟨rfl, rfl⟩
    · go_meet
      have hm : min kn 100 = kn := by omega
      rw [hm]; exact ⟨rfl, rfl⟩
  case rest =>
  obtain ⟨rfl, rfl⟩ := hcut
  have HK1 : Hid (BytesIn wc wc.heap.size KA (min kn 100) (key.take (min kn 100))) := HK.out.take _ (by omega)
  have hkl : (min kn 100) ≤ 100 := by omega
  have hkmc : (min kn 100) ≤ kc := by omega
  generalize min kn 100 = km at *
  clear HK b1 b2
  go_wp2_with fail
  go_loopw [5, 20] (fun s5 i wr => ∃ k : Nat, k ≤ n ∧ i = .int .i64 k ∧ ∃ xs Al cl, s5 = .slice Al xs.length cl ∧ OwnV wr wc.heap.size 22 s5 xs ∧ SlicesOf wc wc.heap.size xs (cutTo ps k) ∧ Below wc.heap.size wc wr) (fun _ i _ => n - (intOf i).toNat)
  case atStart => exact ⟨0, by omega, rfl, [], none, 0, rfl, OwnV.none _ _ _, trivial, Below.refl _ _⟩
  case round =>
    obtain ⟨k, hkn', rfl, xs, Al, cl, rfl, hown, hsl, hbel⟩ := hrel
    have HO := Lib.hid hown
    have HX := Lib.hid hsl
    have HB := Lib.hid hbel
    clear hown hsl hbel
    by_cases hlt : k < n
    · obtain ⟨g, o, rfl, hg, hc⟩ := HP.out.2 (by omega)
      obtain ⟨A', m, cm, hc1, hc2, hc3, hc4⟩ := hc k hlt
      have hcell : wr.cell? ⟨g, o + k, none⟩ = some (.slice A' m cm) := (HB.out.cell (p := ⟨g, o + k, none⟩) hg).trans hc1
      have HP4 := Lib.hid hc4
      clear hc hc1 hc4
      have b4 : (m : Int) ≤ cm := by omega
      have b5 : (cm : Int) ≤ 9223372036854775807 := by unfold maxLen at hc3; omega
      have b6 : (k : Int) < n := by omega
      have b7 : (0 : Int) ≤ k := by omega
      have hv : ∀ q : Nat, Hid (ValsIn (wr.alloc (.cells #[.slice A' q cm, .slice none 0 0] 22)) (wr.alloc (.cells #[.slice A' q cm, .slice none 0 0] 22)).heap.size (some ⟨wr.heap.size, 0, none⟩) 2 [.slice A' q cm, .slice none 0 0]) := fun q =>
        ValsIn.of_row (xs := [.slice A' q cm, .slice none 0 0]) (Row.new wr _ _) (Row.new wr 22 _).lt
      have ho : ∀ q : Nat, Hid (OwnV (wr.alloc (.cells #[.slice A' q cm, .slice none 0 0] 22)) wc.heap.size 22 (.slice Al xs.length cl) xs) := fun q => HO.out.alloc _
      have hone : ∀ q : Nat, Hid (∀ u ∈ [Value.slice A' q cm, Value.slice none 0 0], u.oneCell' = true) := fun q => by intro u hu; simp only [List.mem_cons, List.not_mem_nil, or_false] at hu; rcases hu with rfl | rfl <;> rfl
      have hxl : Hid (xs.length ≤ 16) := show _ ≤ _ by rw [HX.out.length]; exact (cutTo_bound ps k).2
      have hsz : ∀ o : Obj, wc.heap.size ≤ (wr.alloc o).heap.size := fun o => by have := HB.out.size; simp; omega
      have hlow : ∀ j, (Value.slice Al xs.length cl).ownBlock = some j → wc.heap.size ≤ j := fun j hj => (HO.out.lt j hj).1
      have HLOW := Lib.hid hlow
      have HSZ := Lib.hid hsz
      clear hlow hsz
      go_wp2_with (at_builtin; go_loud (refine wpList_append_vals (v := .slice Al xs.length cl) oneCell_sl rfl (.tmp 27) (.tmp 33) rfl rfl (ho _).out rfl (hv _).out (hone _).out (by have := hxl.out; omega) (by have := hxl.out; omega) (HSZ.out _) ?_); intro A3 c3 w3 hown3 hgrow3 hblk3)
      · go_roundw
        case rel =>
          have e : (if (80 : Int) < m then (80 : Int) else m).toNat = min m 80 := by split <;> omega
          rw [e] at hown3 hgrow3
          refine ⟨k + 1, by omega, by go_num, xs ++ [.slice A' (min m 80) cm, .slice none 0 0], A3, c3, by simp, hown3.out, ?_, ?_⟩
          · rw [cutTo, if_pos (by omega)]
            refine HX.out.append ⟨⟨A', min m 80, cm, rfl, by omega, hc3, ?_⟩, ⟨none, 0, 0, rfl, Nat.le_refl _, Nat.zero_le _, BytesIn.nil _ _ _⟩, trivial⟩
            have h80 : (ps.getD k []).take 80 = (ps.getD k []).take (min m 80) := by
              rw [← HP4.out.1, List.take_eq_take_iff]; omega
            rw [h80]
            exact HP4.out.take _ (by omega)
          · exact (HB.out.alloc HB.out.size _).grown hgrow3.out (HSZ.out _) HLOW.out
        case measure => simp [intOf]; omega
      · go_roundw
        case rel =>
          refine ⟨k + 1, by omega, by go_num, xs, Al, cl, rfl, HO.out, ?_, HB.out⟩
          rw [cutTo, if_neg (by omega)]
          exact HX.out
        case measure => simp [intOf]; omega
    · obtain rfl : k = n := by omega
      obtain ⟨ls, hls⟩ : ∃ ls, ls = cutTo ps k := ⟨_, rfl⟩
      have hlb := cutTo_bound ps k
      rw [← hls] at hlb
      have HX' : Hid (SlicesOf wc wc.heap.size xs ls) := by rw [hls]; exact HX.out
      clear HX hls HP
      obtain ⟨wl, hwl⟩ : ∃ wl : World, wl = wr := ⟨_, rfl⟩
      have hpl : PartsIn wr wr.heap.size Al xs.length ls := partsIn_of HO.out.vals ((HX'.out.below HB.out).more HB.out.size)
      have hcat := concat_any ls Al xs.length cl wr (by rw [HX'.out.length]; omega) hpl (by omega)
      obtain ⟨wh, hwh⟩ : ∃ wh, wh = ls.flatten := ⟨_, rfl⟩
      rw [← hwh] at hcat hlb
      have HWH := Lib.hid hwh
      have HPL := Lib.hid hpl
      have HCAT := Lib.hid hcat
      clear hpl hcat hwl hwh
      go_wp2_with (go_at_call 17; go_loud (refine HCAT.out.mono ?_); rintro e w2 ⟨A8, c8, rfl, hown8, hb8⟩)
      have hb82 : Below wc.heap.size wc w2 := HB.out.trans (hb8.mono HB.out.size)
      have hpl2 : PartsIn w2 wr.heap.size Al xs.length ls := HPL.out.below hb8
      have hl8 := hown8.form
      have hbw : BytesIn w2 w2.heap.size A8 wh.length wh := hown8.bytes
      obtain ⟨hc8, hc8m⟩ : wh.length ≤ c8 ∧ c8 ≤ maxLen := by
        obtain ⟨A', c', e, h1, h2⟩ := hl8
        injection e with e1 e2 e3
        subst e3; exact ⟨h1, h2⟩
      have HB2 := Lib.hid hb82
      have HPL2 : Hid (PartsIn w2 w2.heap.size Al xs.length ls) := hpl2.more hb8.size
      have HW := Lib.hid hbw
      have HC2 : Hid (Consts w2) := HC.out.below hb82
      have HS2 : Hid (Starts w2) := HS.out.below hb82
      have HK2 : Hid (BytesIn w2 w2.heap.size KA km (key.take km)) := (HK1.out.below hb82).more hb82.size
      have HXL : Hid (xs.length ≤ 16) := show _ ≤ _ by rw [HX'.out.length]; exact hlb.2
      have hw640 := hlb.1
      clear hl8 hbw hb82 hpl2 hown8 hb8 HPL HCAT HX' HB HO HC HS HK1 hlb
      have b8 : (c8 : Int) ≤ 9223372036854775807 := by unfold maxLen at hc8m; omega
      have b9 : (wh.length : Int) ≤ c8 := by omega
      obtain ⟨wn, hwn⟩ : ∃ wn, wn = wh.length := ⟨_, rfl⟩
      rw [← hwn] at hc8 hw640 b9 HW
      rw [← hwn]
      have HWN := Lib.hid hwn
      clear hwn
      obtain ⟨wo, rfl⟩ : ∃ wo : World, wo = wr := ⟨_, rfl⟩
      go_loopw [9, 40] (fun s9 i wr => ∃ j : Nat, j ≤ wn ∧ i = .int .i64 j ∧ ∃ ys Ae ce, s9 = .slice Ae ys.length ce ∧ OwnV wr w2.heap.size 22 s9 ys ∧ SlicesOf w2 w2.heap.size ys (onesTo wh j) ∧ Below w2.heap.size w2 wr) (fun _ i _ => wn - (intOf i).toNat)
      case atStart => exact ⟨0, by omega, rfl, [], none, 0, rfl, OwnV.none _ _ _, trivial, Below.refl _ _⟩
      case round =>
        obtain ⟨j, hj, rfl, ys, Ae, ce, rfl, hown, hsl, hbel⟩ := hrel
        have HO := Lib.hid hown
        have HX := Lib.hid hsl
        have HB := Lib.hid hbel
        clear hown hsl hbel
        by_cases hjl : j < wn
        · obtain ⟨g, o, rfl, hg, hc⟩ := HW.out.2 (by omega)
          have hv : Hid (ValsIn (wr.alloc (.cells #[.slice (some ⟨g, o + j, none⟩) 1 (c8 - j)] 22)) (wr.alloc (.cells #[.slice (some ⟨g, o + j, none⟩) 1 (c8 - j)] 22)).heap.size (some ⟨wr.heap.size, 0, none⟩) 1 [.slice (some ⟨g, o + j, none⟩) 1 (c8 - j)]) :=
            ValsIn.of_row (xs := [.slice (some ⟨g, o + j, none⟩) 1 (c8 - j)]) (Row.new wr _ _) (Row.new wr 22 _).lt
          have ho : Hid (OwnV (wr.alloc (.cells #[.slice (some ⟨g, o + j, none⟩) 1 (c8 - j)] 22)) w2.heap.size 22 (.slice Ae ys.length ce) ys) := HO.out.alloc _
          have hone : Hid (∀ u ∈ [Value.slice (some ⟨g, o + j, none⟩) 1 (c8 - j)], u.oneCell' = true) := by intro u hu; rw [List.mem_singleton] at hu; rw [hu]; rfl
          have hyl : Hid (ys.length ≤ 640) := show _ ≤ _ by rw [HX.out.length, onesTo_length]; omega
          have HSZ : Hid (w2.heap.size ≤ (wr.alloc (.cells #[.slice (some ⟨g, o + j, none⟩) 1 (c8 - j)] 22)).heap.size) := show _ ≤ _ by have := HB.out.size; simp; omega
          have HLOW : Hid (∀ j, (Value.slice Ae ys.length ce).ownBlock = some j → w2.heap.size ≤ j) := fun j hj => (HO.out.lt j hj).1
          have HCJ := Lib.hid (hc j hjl)
          clear hc
          have d1 : (0 : Int) ≤ j := by omega
          have d2 : (j : Int) < wn := by omega
          have d3 : (j : Int) + 1 ≤ c8 := by omega
          go_wp2_with (at_builtin; go_loud (refine wpList_append_vals (v := .slice Ae ys.length ce) oneCell_sl rfl (.tmp 43) (.tmp 49) rfl rfl ho.out rfl hv.out hone.out (by have := hyl.out; omega) (by have := hyl.out; omega) HSZ.out ?_); intro A3 c3 w3 hown3 hgrow3 hblk3)
          go_roundw
          case rel =>
            refine ⟨j + 1, by omega, by go_num, ys ++ [.slice (some ⟨g, o + j, none⟩) 1 (c8 - j)], A3, c3, by simp, hown3.out, ?_, ?_⟩
            · rw [onesTo]
              refine HX.out.append ⟨⟨_, 1, c8 - j, rfl, by omega, by omega, rfl, fun _ => ⟨g, o + j, rfl, hg, fun i hi => ?_⟩⟩, trivial⟩
              obtain rfl : i = 0 := by omega
              exact HCJ.out
            · exact (HB.out.alloc HB.out.size _).grown hgrow3.out HSZ.out HLOW.out
          case measure => simp [intOf]; omega
        · obtain rfl : j = wn := by omega
          have hflat : (onesTo wh j).flatten = wh := by
            rw [onesTo_flat wh j (by have := HWN.out; omega), HWN.out, List.take_length]
          have hpe : PartsIn wr wr.heap.size Ae ys.length (onesTo wh j) := partsIn_of HO.out.vals ((HX.out.below HB.out).more HB.out.size)
          have hyn : ys.length = j := by rw [HX.out.length, onesTo_length]
          have HPE := Lib.hid hpe
          have HFL := Lib.hid hflat
          have HYN := Lib.hid hyn
          have HCw : Hid (Consts wr) := HC2.out.below HB.out
          have HSw : Hid (Starts wr) := HS2.out.below HB.out
          have HKw : Hid (BytesIn wr wr.heap.size KA km (key.take km)) := (HK2.out.below HB.out).more HB.out.size
          have HWw : Hid (BytesIn wr wr.heap.size A8 j wh) := (HW.out.below HB.out).more HB.out.size
          have HPl : Hid (PartsIn wr wr.heap.size Al xs.length ls) := (HPL2.out.below HB.out).more HB.out.size
          have HBw : Hid (Below wc.heap.size wc wr) := HB2.out.trans (HB.out.mono HB2.out.size)
          clear hflat hpe hyn HO HX HB HW HC2 HS2 HK2 HPL2 HB2
          have hsha := sha_any [wh] (some ⟨wr.heap.size, 0, none⟩) 1 1 (wr.alloc (.cells #[.slice A8 j c8] 22)) (by omega) (partsIn_one HWw.out hc8 hc8m rfl) (by simp; have := HWN.out; omega) (HCw.out.alloc _) (HSw.out.alloc _)
          have hone : [wh].flatten = wh := by simp
          rw [hone] at hsha
          obtain ⟨a, ha⟩ : ∃ a, a = sha wh := ⟨_, rfl⟩
          rw [← ha] at hsha
          have hal : a.length = 32 := by rw [ha]; exact sha_length _
          have HA := Lib.hid ha
          have HSH := Lib.hid hsha
          clear hone ha hsha
          go_wp2_with (go_at_call 12; go_loud (refine HSH.out.mono ?_); rintro e w4 ⟨rfl, hb4⟩)
          have hb4' : Below wr.heap.size wr w4 := ((Below.refl _ wr).alloc (Nat.le_refl _) _).trans (hb4.mono (by simp))
          have hp5 := partsIn_one (W := w4) ((HWw.out.below hb4').more hb4'.size) hc8 hc8m rfl
          have hk5 := ((HKw.out.below hb4').more hb4'.size).alloc (Nat.le_refl _) (.cells #[.slice A8 j c8] 22)
          have hmac5 := hmac_any (key.take km) [wh] KA km kc (some ⟨w4.heap.size, 0, none⟩) 1 1 (w4.alloc (.cells #[.slice A8 j c8] 22)) (hk5.more (by simp)) hkmc hkc (by omega) (by omega) hp5 (by simp; have := HWN.out; omega) ((HCw.out.below hb4').alloc _) ((HSw.out.below hb4').alloc _)
          rw [show [wh].flatten = wh by simp] at hmac5
          obtain ⟨b, hb⟩ : ∃ b, b = hmac (key.take km) wh := ⟨_, rfl⟩
          rw [← hb] at hmac5
          have hbl : b.length = 32 := by rw [hb]; exact sha_length _
          refine hmac5.mono ?_
          rintro e w5 ⟨rfl, hb5⟩
          have hb5' : Below wr.heap.size wr w5 := (hb4'.alloc hb4'.size _).trans (hb5.mono (by have := hb4'.size; simp; omega))
          have HBH := Lib.hid hb
          have HB5 := Lib.hid hb5'
          have f1 : Row ((w5.alloc (.cells (u8s (zeros 32)).toArray 24)).alloc (.cells (u8s (zeros 32)).toArray 24)) w5.heap.size 24 (u8s (zeros 32)).toArray := (Row.new w5 _ _).alloc _
          have f2 : Row (((w5.alloc (.cells (u8s (zeros 32)).toArray 24)).alloc (.cells (u8s (zeros 32)).toArray 24)).setRow w5.heap.size (u8s a).toArray) (w5.heap.size + 1) 24 (u8s (zeros 32)).toArray :=
            Row.setRowOther (by have := Row.new (w5.alloc (.cells (u8s (zeros 32)).toArray 24)) 24 (u8s (zeros 32)).toArray; simpa using this) (by omega) _
          have hia : (Tryd.prog.info? 24).map (·.size) = some (u8s a).toArray.size := by rw [List.size_toArray, u8s_length, hal]; kernel_rfl
          have hib : (Tryd.prog.info? 24).map (·.size) = some (u8s b).toArray.size := by rw [List.size_toArray, u8s_length, hbl]; kernel_rfl
          have hza : (u8s (zeros 32)).toArray.size = (u8s a).toArray.size := by rw [List.size_toArray, List.size_toArray, u8s_length, u8s_length, hal]; rfl
          have hzb : (u8s (zeros 32)).toArray.size = (u8s b).toArray.size := by rw [List.size_toArray, List.size_toArray, u8s_length, u8s_length, hbl]; rfl
          have F1 := Lib.hid f1
          have F2 := Lib.hid f2
          have HIA := Lib.hid hia
          have HIB := Lib.hid hib
          have HZA := Lib.hid hza
          have HZB := Lib.hid hzb
          clear hb4 hb4' hp5 hk5 hmac5 hb hb5 hb5' f1 f2 hia hib hza hzb HSH
          go_wp2_with (first | ((with_reducible show wpList _ _ _ (⟨none, .store _ (.tmp 11) _, _, _, _, _⟩ :: _) _ _); go_loud (refine wpList_store_row rfl 24 _ _ rfl w5.heap.size (u8s a).toArray rfl rfl 24 _ F1.out HIA.out HZA.out (u8s_all _) ?_)) | ((with_reducible show wpList _ _ _ (⟨none, .store _ (.tmp 12) _, _, _, _, _⟩ :: _) _ _); go_loud (refine wpList_store_row rfl 24 _ _ rfl (w5.heap.size + 1) (u8s b).toArray rfl rfl 24 _ F2.out HIB.out HZB.out (u8s_all _) ?_)))
          obtain ⟨W, hW⟩ : ∃ W : World, W = (((w5.alloc (.cells (u8s (zeros 32)).toArray 24)).alloc (.cells (u8s (zeros 32)).toArray 24)).setRow w5.heap.size (u8s a).toArray).setRow (w5.heap.size + 1) (u8s b).toArray := ⟨_, rfl⟩
          change Code.wp _ _ _ _ ((((w5.alloc (.cells (u8s (zeros 32)).toArray 24)).alloc (.cells (u8s (zeros 32)).toArray 24)).setRow w5.heap.size (u8s a).toArray).setRow (w5.heap.size + 1) (u8s b).toArray)
          rw [← hW]
          have hra : Row W w5.heap.size 24 (u8s a).toArray := by rw [hW]; exact (Row.setRowSame F1.out _).setRowOther (by omega) _
          have hrb : Row W (w5.heap.size + 1) 24 (u8s b).toArray := by rw [hW]; exact Row.setRowSame F2.out _
          have hbW : Below wr.heap.size wr W := by
            rw [hW]
            have := HB5.out.size
            exact below_setRow (below_setRow ((HB5.out.alloc HB5.out.size _).alloc (by simp; omega) _) HB5.out.size _) (by omega) _
          have hcl : ∀ w, Alike W w → Calls Tryd.prog 12 #[.slice Al xs.length cl] w fun e w' => e = .returned (.agg (u8s a).toArray) ∧ Below w.heap.size w w' := fun w hw => by
            have hb := hbW.trans (hw.mono hbW.size)
            have := sha_any ls Al xs.length cl w (by have := HXL.out; omega) ((HPl.out.below hb).more hb.size) (by rw [← HWH.out, ← HWN.out]; omega) (HCw.out.below hb) (HSw.out.below hb)
            rw [← HWH.out, ← HA.out] at this
            exact this
          have hce : ∀ w, Alike W w → Calls Tryd.prog 12 #[.slice Ae ys.length ce] w fun e w' => e = .returned (.agg (u8s a).toArray) ∧ Below w.heap.size w w' := fun w hw => by
            have hb := hbW.trans (hw.mono hbW.size)
            have := sha_any (onesTo wh j) Ae ys.length ce w (by have := HYN.out; omega) ((HPE.out.below hb).more hb.size) (by rw [HFL.out, ← HWN.out]; omega) (HCw.out.below hb) (HSw.out.below hb)
            rw [HFL.out, ← HA.out] at this
            exact this
          have hml : ∀ w, Alike W w → Calls Tryd.prog 14 #[.slice KA km kc, .slice Al xs.length cl] w fun e w' => e = .returned (.agg (u8s b).toArray) ∧ Below w.heap.size w w' := fun w hw => by
            have hb := hbW.trans (hw.mono hbW.size)
            have := hmac_any (key.take km) ls KA km kc Al xs.length cl w ((HKw.out.below hb).more hb.size) hkmc hkc (by omega) (by have := HXL.out; omega) ((HPl.out.below hb).more hb.size) (by rw [← HWH.out, ← HWN.out]; omega) (HCw.out.below hb) (HSw.out.below hb)
            rw [← HWH.out, ← HBH.out] at this
            exact this
          have hme : ∀ w, Alike W w → Calls Tryd.prog 14 #[.slice KA km kc, .slice Ae ys.length ce] w fun e w' => e = .returned (.agg (u8s b).toArray) ∧ Below w.heap.size w w' := fun w hw => by
            have hb := hbW.trans (hw.mono hbW.size)
            have := hmac_any (key.take km) (onesTo wh j) KA km kc Ae ys.length ce w ((HKw.out.below hb).more hb.size) hkmc hkc (by omega) (by have := HYN.out; omega) ((HPE.out.below hb).more hb.size) (by rw [HFL.out, ← HWN.out]; omega) (HCw.out.below hb) (HSw.out.below hb)
            rw [HFL.out, ← HBH.out] at this
            exact this
          have htl : ∀ w, Alike W w → Calls Tryd.prog 16 #[] w fun e w' => e = .returned (.bool true) ∧ Below w.heap.size w w' := fun w hw => by
            have hb := hbW.trans (hw.mono hbW.size)
            exact tells_any w (HCw.out.below hb) (HSw.out.below hb)
          have hea : ∀ w, (binOp .eql 24 (.agg (u8s a).toArray) (.agg (u8s a).toArray)).run Tryd.prog w = .ok (.bool true) w := fun w => by
            have := run_eql_bytes (P := Tryd.prog) w 24 5 32 Tryd.underlying24 Tryd.underlying5 (fun w => by kernel_rfl) a a hal hal
            rwa [show (a == a) = true by simp] at this
          have heb : ∀ w, (binOp .eql 24 (.agg (u8s b).toArray) (.agg (u8s b).toArray)).run Tryd.prog w = .ok (.bool true) w := fun w => by
            have := run_eql_bytes (P := Tryd.prog) w 24 5 32 Tryd.underlying24 Tryd.underlying5 (fun w => by kernel_rfl) b b hbl hbl
            rwa [show (b == b) = true by simp] at this
          have RA := Lib.hid hra
          have RB := Lib.hid hrb
          have HBW := Lib.hid (HBw.out.trans (hbW.mono HBw.out.size))
          have HCL := Lib.hid hcl
          have HCE := Lib.hid hce
          have HML := Lib.hid hml
          have HME := Lib.hid hme
          have HTL := Lib.hid htl
          have HEA := Lib.hid hea
          have HEB := Lib.hid heb
          clear hW hra hrb hbW F1 F2 HB5 HPE HFL HYN HCw HSw HKw HWw HPl HBw hcl hce hml hme htl hea heb
          refine wp_region_alike (by kernel_rfl) (by kernel_rfl) ?_
          go_simp
          refine q_move (some 59) (.slice Al xs.length cl) _ rfl rfl rfl rfl ?_
          go_simp
          refine q_call (some 60) (.agg (u8s a).toArray) 12 #[.slice Al xs.length cl] rfl rfl (fun w => by go_simp) HCL.out ?_
          go_simp
          refine q_load_row (some 61) 24 _ w5.heap.size 24 (u8s a).toArray _ rfl rfl rfl rfl RA.out Tryd.underlying24 rfl HIA.out ?_
          go_simp
          refine q_val (some 62) (.bool true) rfl rfl (fun w _ => by have h := HEA.out; go_simp) ?_
          go_simp
          refine q_move (some 63) (.bool true) _ rfl rfl rfl rfl ?_
          go_simp
          refine q_move (some 64) (.slice Ae ys.length ce) _ rfl rfl rfl rfl ?_
          go_simp
          refine q_call (some 65) (.agg (u8s a).toArray) 12 #[.slice Ae ys.length ce] rfl rfl (fun w => by go_simp) HCE.out ?_
          go_simp
          refine q_load_row (some 66) 24 _ w5.heap.size 24 (u8s a).toArray _ rfl rfl rfl rfl RA.out Tryd.underlying24 rfl HIA.out ?_
          go_simp
          refine q_val (some 67) (.bool true) rfl rfl (fun w _ => by have h := HEA.out; go_simp) ?_
          go_simp
          refine q_val (some 68) (.bool true) rfl rfl (fun w _ => by go_simp) ?_
          go_simp
          refine q_move (some 69) (.bool true) _ rfl rfl rfl rfl ?_
          go_simp
          refine q_move (some 70) (.slice KA km kc) _ rfl rfl rfl rfl ?_
          go_simp
          refine q_move (some 71) (.slice Al xs.length cl) _ rfl rfl rfl rfl ?_
          go_simp
          refine q_call (some 72) (.agg (u8s b).toArray) 14 #[.slice KA km kc, .slice Al xs.length cl] rfl rfl (fun w => by go_simp) HML.out ?_
          go_simp
          refine q_load_row (some 73) 24 _ (w5.heap.size + 1) 24 (u8s b).toArray _ rfl rfl rfl rfl RB.out Tryd.underlying24 rfl HIB.out ?_
          go_simp
          refine q_val (some 74) (.bool true) rfl rfl (fun w _ => by have h := HEB.out; go_simp) ?_
          go_simp
          refine q_val (some 75) (.bool true) rfl rfl (fun w _ => by go_simp) ?_
          go_simp
          refine q_move (some 76) (.bool true) _ rfl rfl rfl rfl ?_
          go_simp
          refine q_move (some 77) (.slice KA km kc) _ rfl rfl rfl rfl ?_
          go_simp
          refine q_move (some 78) (.slice Ae ys.length ce) _ rfl rfl rfl rfl ?_
          go_simp
          refine q_call (some 79) (.agg (u8s b).toArray) 14 #[.slice KA km kc, .slice Ae ys.length ce] rfl rfl (fun w => by go_simp) HME.out ?_
          go_simp
          refine q_load_row (some 80) 24 _ (w5.heap.size + 1) 24 (u8s b).toArray _ rfl rfl rfl rfl RB.out Tryd.underlying24 rfl HIB.out ?_
          go_simp
          refine q_val (some 81) (.bool true) rfl rfl (fun w _ => by have h := HEB.out; go_simp) ?_
          go_simp
          refine q_val (some 82) (.bool true) rfl rfl (fun w _ => by go_simp) ?_
          go_simp
          refine q_move (some 83) (.bool true) _ rfl rfl rfl rfl ?_
          go_simp
          refine q_call (some 84) (.bool true) 16 #[] rfl rfl (fun w => by go_simp) HTL.out ?_
          go_simp
          refine q_val (some 85) (.bool true) rfl rfl (fun w _ => by go_simp) ?_
          go_simp
          refine q_assign (some 4) (.bool true) _ rfl rfl rfl rfl ?_
          go_simp
          refine wpQuiet_nil ?_
          intro wz hz
          go_wp2_with fail
          go_ret
          exact ⟨rfl, HBW.out.trans (hz.mono HBW.out.size)⟩
end Go.Proofs.YtgejndannlfhkaaDoor
