/- The walk of longwireref02.Sha256. No condition but the message's size. -/
import Derived.Test.YtgejndannlfhkaaDoorRefM
import Derived.Test.YtgejndannlfhkaaDoorSha256
import Derived.Test.YtgejndannlfhkaaDoorVals
import Derived.Test.YtgejndannlfhkaaDoorFlowK
import Derived.BigQuiet
import Derived.Deep.QuietTactic
namespace Go.Proofs.YtgejndannlfhkaaDoor
open Go Go.RowKit Go.Shelf
attribute [local go_sem] n32_add n32_xor n32_and n32_or n32_flip n32_flipw

/-- A table of words behind a package variable. -/
def TabAt (w : World) (v : Nat) (l : List W32) : Prop := v < w.heap.size ∧ ∃ g o c, g < w.heap.size ∧ w.cell? ⟨v, 0, none⟩ = some (.slice (some ⟨g, o, none⟩) l.length c) ∧ ∀ i, i < l.length → w.cell? ⟨g, o + i, none⟩ = some (.int .u32 (n32 (l.getD i 0)))
theorem TabAt.below {w w' : World} {v : Nat} {l : List W32} (h : TabAt w v l) (hb : Below w.heap.size w w') : TabAt w' v l := by
  obtain ⟨h1, g, o, c, h2, h5, h6⟩ := h
  refine ⟨Nat.lt_of_lt_of_le h1 hb.size, g, o, c, Nat.lt_of_lt_of_le h2 hb.size, (hb.cell (p := ⟨v, 0, none⟩) h1).trans h5, fun i hi => (hb.cell (p := ⟨g, o + i, none⟩) h2).trans (h6 i hi)⟩
def Squares (w : World) : Prop := TabAt w 1 start.list
def Cubes (w : World) : Prop := TabAt w 2 kList

set_option maxRecDepth 100000 in
set_option maxHeartbeats 8000000 in
theorem refsha_any (L : List UInt8) (A : Option Addr) (n c : Nat) (w : World) (hn : n ≤ 1099511627776) (hp : BytesIn w w.heap.size A n L) (hsq : Squares w) (hcu : Cubes w) :
    Calls Tryd.prog 13 #[.slice A n c] w fun e w' => e = .returned (.agg (u8s (sha L)).toArray) ∧ Below w.heap.size w w' := by
  have HP := Lib.hid hp
  have HSQ := Lib.hid hsq
  have HCU := Lib.hid hcu
  have HLN : Hid (L.length = n) := hp.1
  clear hp hsq hcu
  go_enter Tryd.func13, Tryd.ntmps13
  go_wp2_with (first
    | ((with_reducible show wpList _ _ _ (⟨some 29, _, _, _, _, _⟩ :: _) _ _); refine wpList_append_bytes (v := .slice none 0 0) (l := []) rfl (.tmp 27) (.tmp 28) rfl rfl (OwnB.nil _ (w.heap.size + 1)) rfl (HP.out.alloc (Nat.le_refl _) _) (by simp; omega) (by simp) ?_; intro A2 c2 w2 hown2 hgrow2 hblk2; rw [List.length_nil, Nat.zero_add]; rw [List.length_nil, Nat.zero_add, List.nil_append] at hown2)
    | ((with_reducible show wpList _ _ _ (⟨some 32, _, _, _, _, _⟩ :: _) _ _); refine wpList_append_bytes (v := .slice A2 n c2) (l := L) rfl (.tmp 30) (.tmp 31) rfl rfl (by have := hown2.out.alloc (.cells #[.int .u8 128] 5); exact this) rfl (bytesIn_one _ 128) (by have := HLN.out; omega) (by have := hgrow2.out.size; simp at this ⊢; omega) ?_; rw [HLN.out]; intro A3 c3 w3 hown3 hgrow3 hblk3))
  have hb12 : Below (w.heap.size + 1) (w.alloc (.cells (u8s (List.replicate 32 0)).toArray 23)) w3 := by
    have h1 : Below (w.heap.size + 1) (w.alloc (.cells (u8s (List.replicate 32 0)).toArray 23)) w2 := (Below.refl _ _).grown hgrow2.out (by simp) (fun k e => by cases e)
    exact (h1.alloc (by have := hgrow2.out.size; simpa using this) _).grown hgrow3.out (by have := hgrow2.out.size; simp at this ⊢; omega) (fun k e => by have := ((hown2.out.alloc (.cells #[.int .u8 128] 5)).lt k e).1; omega)
  have hr3 : Row w3 w.heap.size 23 (u8s (List.replicate 32 0)).toArray := (Row.new w _ _).below hb12 (by omega)
  have hb3 : Below w.heap.size w w3 := ((Below.refl _ w).alloc (Nat.le_refl _) _).trans (hb12.mono (by omega))
  have hs3 : w.heap.size + 1 ≤ w3.heap.size := by have := hb12.size; simpa using this
  have HR3 := Lib.hid hr3
  have HB3 := Lib.hid hb3
  have HS3 := Lib.hid hs3
  have HO3 := hown3
  clear hb12 hr3 hb3 hs3 hown3 hgrow3 hblk3 hgrow2 hblk2 hown2
  go_loopw [3] (fun v wr => ∃ (k : Nat) (A4 : Option Addr) (c4 : Nat), k ≤ padLen n ∧ v = .slice A4 (n + 1 + k) c4 ∧ OwnB wr (w.heap.size + 1) (.slice A4 (n + 1 + k) c4) (L ++ [128] ++ List.replicate k 0) ∧ Below (w.heap.size + 1) w3 wr) (fun v _ => padLen n + n + 1 - (match v with | .slice _ m _ => m | _ => 0))
  case atStart => exact ⟨0, A3, c3, by omega, rfl, by simpa using HO3.out, Below.refl _ _⟩
  case round =>
    obtain ⟨k, A4, c4, hk, rfl, hown, hbel⟩ := hrel
    have HO := Lib.hid hown
    have HB := Lib.hid hbel
    have hz := hbel.size
    have hl : (L ++ [128] ++ List.replicate k 0).length = n + 1 + k := by simp [HLN.out]; omega
    have HL := Lib.hid hl
    have hpl : padLen n < 64 := by unfold padLen; omega
    clear hown hbel hl
    by_cases hlt : k < padLen n
    · have ht : (((n : Int) + 1 + k) % 64 != 56) = true := by
        rw [bne_iff_ne]; unfold padLen at hlt; omega
      go_wp2_with ((with_reducible show wpList _ _ _ (⟨some 39, _, _, _, _, _⟩ :: _) _ _); refine wpList_append_bytes (v := .slice A4 (n + 1 + k) c4) (l := L ++ [128] ++ List.replicate k 0) rfl (.tmp 37) (.tmp 38) rfl rfl (HO.out.alloc _) rfl (bytesIn_one _ 0) (by have := HL.out; omega) (by have := HS3.out; simp; omega) ?_; rw [HL.out]; intro A5 c5 w5 hown5 hgrow5 hblk5)
      go_roundw
      case rel =>
        refine ⟨k + 1, A5, c5, by omega, by rw [Nat.add_assoc], ?_, ?_⟩
        · have := hown5.out
          rw [List.append_assoc (L ++ [128])] at this
          rw [show n + 1 + (k + 1) = n + 1 + k + 1 by omega, List.replicate_succ']
          exact this
        · exact (HB.out.alloc (by have := HS3.out; omega) _).grown hgrow5.out (by have := HS3.out; simp; omega) (fun q e => ((HO.out.alloc (.cells #[.int .u8 0] 5)).lt q e).1)
      case measure => simp; omega
    · obtain rfl : k = padLen n := by omega
      have ht : (((n : Int) + 1 + (padLen n : Nat)) % 64 != 56) = false := by
        rw [bne_eq_false_iff_eq]; unfold padLen; omega
      obtain ⟨D, hD⟩ : ∃ D, D = L ++ [128] ++ List.replicate (padLen n) 0 := ⟨_, rfl⟩
      rw [← hD] at HO HL
      obtain ⟨T, hT⟩ : ∃ T, T = n + 1 + padLen n := ⟨_, rfl⟩
      obtain ⟨M, hM⟩ : ∃ M, M = BitVec.ofNat 64 (n * 8) := ⟨_, rfl⟩
      have hM2 : (n : Int) * 8 = n64 M := by
        have := nat_n64 (n * 8) (by omega)
        rw [hM, ← this]; omega
      have hT2 : T ≤ 1099511627776 + 64 := by omega
      have ht' : ((T : Int) % 64 != 56) = false := by rw [hT]; push_cast; exact ht
      rw [← hT] at HO HL ⊢
      have HT := Lib.hid hT
      have HD := Lib.hid hD
      have HM := Lib.hid hM
      have HM2 := Lib.hid hM2
      clear hT hD hM ht hk hlt hM2
      go_wp2_with fail
      rw [HM2.out]
      obtain ⟨wo, rfl⟩ : ∃ wo : World, wo = wr := ⟨_, rfl⟩
      go_loop [5, 6] (fun v i => ∃ k : Nat, k ≤ 7 ∧ i = .int .i64 k ∧ v = .int .u64 (pw k : Nat)) (fun _ i => 7 - (intOf i).toNat)
      case atStart => exact ⟨0, by omega, rfl, rfl⟩
      case round =>
        obtain ⟨k, hk, rfl, rfl⟩ := hrel
        by_cases hk7 : k < 7
        · obtain ⟨p1, p2⟩ := pw_bd k hk7
          have p3 := pw_succ k
          have P3 := Lib.hid p3
          clear p3
          go_wp2_with fail
          go_round
          case rel => exact ⟨k + 1, by omega, by go_num, by rw [P3.out]⟩
          case measure => simp [intOf]; omega
        · obtain rfl : k = 7 := by omega
          rw [pw_seven]
          go_wp2_with fail
          go_loopw [3, 5, 7] (fun v d i wx => ∃ (k : Nat) (A5 : Option Addr) (c5 : Nat), k ≤ 8 ∧ i = .int .i64 k ∧ d = .int .u64 (dv k : Nat) ∧ v = .slice A5 (T + k) c5 ∧ OwnB wx (w.heap.size + 1) (.slice A5 (T + k) c5) (D ++ eightTo M k) ∧ Below (w.heap.size + 1) w3 wx) (fun _ _ i _ => 8 - (intOf i).toNat)
          case atStart => exact ⟨0, A4, c4, by omega, rfl, rfl, rfl, by simpa [eightTo] using HO.out, HB.out⟩
          case round =>
            obtain ⟨k, A5, c5, hk, rfl, rfl, rfl, hown, hbel⟩ := hrel
            have HO2 := Lib.hid hown
            have HB2 := Lib.hid hbel
            have hl : (D ++ eightTo M k).length = T + k := by rw [List.length_append, HL.out, eightTo_length]
            have HL2 := Lib.hid hl
            have hz2 := hbel.size
            clear hown hbel hl
            by_cases hk8 : k < 8
            · have d1 := dv_bd k hk8
              have d2 := dv_succ k
              have d3 := eight_walk M k hk8
              have d5 := (n64_bd M).1
              have d7 := dv_top k (by omega)
              have D2 := Lib.hid d2
              have D3 := Lib.hid d3
              clear d2 d3
              go_wp2_with ((with_reducible show wpList _ _ _ (⟨some 61, _, _, _, _, _⟩ :: _) _ _); rw [D3.out]; refine wpList_append_bytes (v := .slice A5 (T + k) c5) (l := D ++ eightTo M k) rfl (.tmp 54) (.tmp 60) rfl rfl (HO2.out.alloc _) rfl (bytesIn_one _ _) (by have := HL2.out; omega) (by have := HS3.out; simp; omega) ?_; rw [HL2.out]; intro A6 c6 w6 hown6 hgrow6 hblk6)
              go_roundw
              case rel =>
                refine ⟨k + 1, A6, c6, by omega, by go_num, by rw [D2.out], by rw [Nat.add_assoc], ?_, ?_⟩
                · rw [eightTo, ← List.append_assoc]; exact hown6.out
                · exact (HB2.out.alloc (by have := HS3.out; omega) _).grown hgrow6.out (by have := HS3.out; simp; omega) (fun q e => ((HO2.out.alloc (.cells #[.int .u8 (n8 (UInt8.ofNat (M.toNat >>> (56 - 8 * k))))] 5)).lt q e).1)
              case measure => simp [intOf]; omega
            · obtain rfl : k = 8 := by omega
              rw [show ((8 : Nat) : Int) = 8 from rfl]
              obtain ⟨PD, hPD⟩ : ∃ PD, PD = padded L := ⟨_, rfl⟩
              have hpd2 : D ++ eightTo M 8 = PD := by rw [hPD, padded, HD.out, HM.out, HLN.out]
              obtain ⟨m, hm⟩ : ∃ m, m = PD.length / 64 := ⟨_, rfl⟩
              have hpl' : PD.length = 64 * m := by rw [hm, hPD]; exact padded_blocks L
              have hT8 : T + 8 = 64 * m := by rw [← hpl', ← hpd2]; exact HL2.out.symm
              rw [hpd2] at HO2
              rw [hT8] at HO2 ⊢
              have hm2 : m ≤ 1099511627776 := by omega
              have hbyt := HO2.out.bytes
              have hb6 : Below w.heap.size w wr := HB3.out.trans (HB2.out.mono (by omega))
              have hsq6 : Squares wr := HSQ.out.below hb6
              have hcu6 : Cubes wr := HCU.out.below hb6
              have hr6 : Row wr w.heap.size 23 (u8s (List.replicate 32 0)).toArray := HR3.out.below HB2.out (by omega)
              have HBY := Lib.hid hbyt
              have HB6 := Lib.hid hb6
              have HSQ6 := Lib.hid hsq6
              have HCU6 := Lib.hid hcu6
              have HR6 := Lib.hid hr6
              have HPD := Lib.hid hPD
              have HMM := Lib.hid hm
              clear hbyt hb6 hsq6 hcu6 hr6 hPD hm hpd2 hpl' hT8 HO HO2 HB2 HL2 HB3 HR3 HD HT HM HM2 HL HSQ HCU HB hz2 hz hT2 ht' HO3 HS3 HP hpl
              obtain ⟨gh, hgh⟩ : ∃ gh, gh = wr.heap.size := ⟨_, rfl⟩
              have HGH := Lib.hid hgh
              have hh0 : Row (wr.alloc (.cells (words (List.replicate 8 0)) 87)) gh 87 (words (List.replicate 8 0)) := by rw [hgh]; exact Row.new _ _ _
              have hhb : Below gh wr (wr.alloc (.cells (words (List.replicate 8 0)) 87)) := by rw [hgh]; exact (Below.refl _ _).alloc (Nat.le_refl _) _
              have HH0 := Lib.hid hh0
              have HHB := Lib.hid hhb
              obtain ⟨hsv, gs, os, cs, hgs, hsc, hst⟩ := HSQ6.out
              obtain ⟨hkv, gk, ok, ck, hgk, hkc, hkt⟩ := HCU6.out
              have HST := Lib.hid hst
              have HKT := Lib.hid hkt
              have HSC := Lib.hid hsc
              have HKC := Lib.hid hkc
              rw [← hgh] at hsv hgs hkv hgk
              clear hgh hh0 hhb hst hkt hsc hkc HSQ6 HCU6
              go_wp2_with fail
              rw [← HGH.out]
              obtain ⟨wo2, rfl⟩ : ∃ wo : World, wo = wr := ⟨_, rfl⟩
              go_loopw [9] (fun i wx => ∃ k : Nat, k ≤ 8 ∧ i = .int .i64 k ∧ Row wx gh 87 (words (copyTo start.list (List.replicate 8 0) k)) ∧ Below gh wo2 wx) (fun i _ => 8 - (intOf i).toNat)
              case atStart => exact ⟨0, by omega, rfl, HH0.out, HHB.out⟩
              case round =>
                obtain ⟨k, hk, rfl, hrow, hbel⟩ := hrel
                have HR := Lib.hid hrow
                have HB := Lib.hid hbel
                by_cases hk8 : k < 8
                · have hsc' : wr.cell? ⟨1, 0, none⟩ = some (.slice (some ⟨gs, os, none⟩) 8 cs) := (hbel.cell (p := ⟨1, 0, none⟩) hsv).trans HSC.out
                  obtain ⟨x, hx⟩ : ∃ x, x = start.list.getD k 0 := ⟨_, rfl⟩
                  have hst' : wr.cell? ⟨gs, os + k, none⟩ = some (.int .u32 (n32 x)) := by rw [hx]; exact (hbel.cell (p := ⟨gs, os + k, none⟩) hgs).trans (HST.out k hk8)
                  have hhc : wr.cell? ⟨gh, k, none⟩ = some (.int .u32 (n32 ((copyTo start.list (List.replicate 8 0) k).getD k 0))) := hrow.word (by rw [copyTo_length]; simp; omega)
                  obtain ⟨y, hy⟩ : ∃ y, y = (copyTo start.list (List.replicate 8 0) k).getD k 0 := ⟨_, rfl⟩
                  rw [← hy] at hhc
                  have hfr : wr.frozen? ⟨gh, k, none⟩ = false := hrow.free k
                  have hnext : copyTo start.list (List.replicate 8 0) (k + 1) = (copyTo start.list (List.replicate 8 0) k).set k x := by rw [copyTo, ← hx]
                  have HN := Lib.hid hnext
                  clear hrow hbel hx hy hnext
                  have q0 : (0 : Int) ≤ k := by omega
                  have q1 : (k : Int) < 8 := by omega
                  go_wp2_with fail
                  go_roundw
                  case rel =>
                    refine ⟨k + 1, by omega, by go_num, ?_, HB.out.setCell (p := ⟨gh, k, none⟩) (Nat.le_refl _) _⟩
                    rw [HN.out]
                    exact HR.out.setWord k x
                  case measure => simp [intOf]; omega
                · obtain rfl : k = 8 := by omega
                  rw [show ((8 : Nat) : Int) = 8 from rfl]
                  have hrow' : Row wr gh 87 (words (stateTo PD 0).list) := hrow
                  have hkc' : wr.cell? ⟨2, 0, none⟩ = some (.slice (some ⟨gk, ok, none⟩) 64 ck) := (hbel.cell (p := ⟨2, 0, none⟩) hkv).trans HKC.out
                  have HR2 := Lib.hid hrow'
                  have HB2 := Lib.hid hbel
                  have hrw := hrow.lt
                  clear hrow hbel hrow' HR HB HST HSC HH0 HHB
                  go_wp2_with fail
                  obtain ⟨ln, hln⟩ : ∃ ln, ln = 64 * m := ⟨_, rfl⟩
                  rw [← hln] at HBY ⊢
                  have hln1 : 0 < ln := by
                    have h1 := HMM.out
                    have h2 : PD.length = L.length + 9 + padLen L.length := by rw [HPD.out]; exact padded_length L
                    have h3 := padded_blocks L
                    rw [← HPD.out] at h3
                    omega
                  obtain ⟨ga, oa, hA5, hga, hac⟩ := HBY.out.2 hln1
                  subst hA5
                  rw [← HGH.out] at hga
                  have HAC := Lib.hid hac
                  have HLNM := Lib.hid hln
                  clear hln hkc' hac
                  obtain ⟨w5b, hw5b⟩ : ∃ w : World, w = wr := ⟨_, rfl⟩
                  rw [← hw5b] at HR2 HB2 hrw ⊢
                  refine ref_loop5 PD m ga oa ln c5 gh gk ok ck w5b HLNM.out hm2 (fun i hi => (HB2.out.cell (p := ⟨ga, oa + i, none⟩) hga).trans (HAC.out i hi)) hga HR2.out (fun i hi => (HB2.out.cell (p := ⟨gk, ok + i, none⟩) hgk).trans (HKT.out i hi)) hgk (fun c a d v w h => by cases d <;> exact h) ?_
                  intro u12 u13 u14 u15 u16 u17 u18 u19 u20 u21 u22 u23 u24 u75 u76 u77 u78 u79 u80 u81 u82 u83 u84 u85 u86 u87 u88 u89 u90 u91 u92 u93 u94 u95 u96 u97 u98 u99 u100 u101 u102 u103 u104 u105 u106 u107 u108 u109 u110 u111 u112 u113 u114 u115 u116 u117 u118 u119 u120 u121 u122 u123 u124 u125 u126 u127 u128 u129 u130 u131 u132 u133 u134 u135 u136 u137 u138 u139 u140 u141 u142 u143 u144 u145 u146 u147 u148 u149 u150 u151 u152 u153 u154 u155 u156 u157 u158 u159 u160 u161 u162 u163 u164 u165 u166 u167 u168 u169 u170 u171 u172 u173 u174 u175 u176 u177 u178 u179 u180 u181 u182 u183 u184 u185 u186 u187 u188 u189 u190 u191 u192 u193 u194 u195 u196 u197 u198 u199 u200 u201 u202 u203 u204 u205 u206 u207 u208 u209 u210 u211 u212 u213 u214 u215 u216 u217 u218 u219 u220 u221 u222 u223 u224 u225 u226 u227 u228 u229 u230 u231 u232 u233 u234 u235 u236 u237 u238 u239 u240 u241 u242 u243 u244 u245 u246 u247 u248 u249 u250 u251 u252 u253 u254 u255 u256 u257 u258 u259 u260 u261 u262 u263 u264 u265 u266 u267 u268 u269 u270 u271 u272 u273 u274 u275 wz hrz hbz
                  have HRZ := Lib.hid hrz
                  have HBZ : Hid (Below w.heap.size w wz) := HB6.out.trans ((HB2.out.trans hbz).mono (by have := HGH.out; have := HB6.out.size; omega))
                  have hghz := hrz.lt
                  have HRES : Hid (Row wz w.heap.size 23 (u8s (List.replicate 32 0)).toArray) := HR6.out.below ((HB2.out.trans hbz).mono (by have := HGH.out; omega)) HR6.out.lt
                  clear hrz hbz
                  obtain ⟨S, hS⟩ : ∃ S, S = (stateTo PD m).list := ⟨_, rfl⟩
                  rw [← hS] at HRZ
                  have hSl : S.length = 8 := by rw [hS]; rfl
                  have hfin : digestTo S 32 = sha L := by rw [hS, HMM.out, HPD.out]; rfl
                  have HSL := Lib.hid hSl
                  have HFIN := Lib.hid hfin
                  clear hS hSl hfin
                  obtain ⟨go, hgo⟩ : ∃ go, go = wz.heap.size := ⟨_, rfl⟩
                  have HGO := Lib.hid hgo
                  have ho0 : Row (wz.alloc (.cells (u8s (digestTo S 0)).toArray 23)) go 23 (u8s (digestTo S 0)).toArray := by rw [hgo]; exact Row.new _ _ _
                  have hob : Below go wz (wz.alloc (.cells (u8s (digestTo S 0)).toArray 23)) := by rw [hgo]; exact (Below.refl _ _).alloc (Nat.le_refl _) _
                  have HO0 := Lib.hid ho0
                  have HOB := Lib.hid hob
                  rw [← hgo] at hghz
                  clear hgo ho0 hob
                  go_wp2_with fail
                  rw [← HGO.out]
                  go_loopw [26] (fun i wx => ∃ k : Nat, k ≤ 8 ∧ i = .int .i64 k ∧ Row wx go 23 (u8s (digestTo S (4 * k))).toArray ∧ Below go wz wx) (fun i _ => 8 - (intOf i).toNat)
                  case atStart => exact ⟨0, by omega, rfl, HO0.out, HOB.out⟩
                  case round =>
                    obtain ⟨k, hk, rfl, hrow, hbel⟩ := hrel
                    have HR := Lib.hid hrow
                    have HB := Lib.hid hbel
                    by_cases hk8 : k < 8
                    · obtain ⟨x, hx⟩ : ∃ x, x = S.getD k 0 := ⟨_, rfl⟩
                      have hsc : wr.cell? ⟨gh, k, none⟩ = some (.int .u32 (n32 x)) := by rw [hx]; exact (hbel.cell (p := ⟨gh, k, none⟩) hghz).trans (HRZ.out.word (by rw [HSL.out]; exact hk8))
                      have hd4 := digest_four S k
                      rw [← hx] at hd4
                      have hoc : ∀ i, i < 4 → wr.cell? ⟨go, 4 * k + i, none⟩ = some (.int .u8 (n8 ((digestTo S (4 * k)).getD (4 * k + i) 0))) := fun i hi => by
                        rw [hrow.cell, List.getElem?_toArray]; exact u8s_get _ _ (by rw [digestTo_length]; omega)
                      have o0 := hoc 0 (by decide)
                      have o1 := hoc 1 (by decide)
                      have o2 := hoc 2 (by decide)
                      have o3 := hoc 3 (by decide)
                      rw [Nat.add_zero] at o0
                      have f0 : wr.frozen? ⟨go, 4 * k, none⟩ = false := hrow.free _
                      have f1 : wr.frozen? ⟨go, 4 * k + 1, none⟩ = false := hrow.free _
                      have f2 : wr.frozen? ⟨go, 4 * k + 2, none⟩ = false := hrow.free _
                      have f3 : wr.frozen? ⟨go, 4 * k + 3, none⟩ = false := hrow.free _
                      have ne1 : gh ≠ go := by omega
                      have HD4 := Lib.hid hd4
                      have b24 := byte_24 x
                      have b16 := byte_16 x
                      have b8 := byte_8 x
                      have b0 := byte_0 x
                      have B24 := Lib.hid b24
                      have B16 := Lib.hid b16
                      have B8 := Lib.hid b8
                      have B0 := Lib.hid b0
                      have x0 := (n32_bd x).1
                      have x1 := (n32_bd x).2
                      have q0 : (0 : Int) ≤ k := by omega
                      have q1 : (k : Int) < 8 := by omega
                      clear hrow hbel hx hd4 hoc b24 b16 b8 b0
                      go_wp2_with fail
                      go_roundw
                      case rel =>
                        rw [B24.out, B16.out, B8.out, B0.out]
                        refine ⟨k + 1, by omega, by go_num, ?_, (((HB.out.setCell (p := ⟨go, 4 * k, none⟩) (Nat.le_refl _) _).setCell (p := ⟨go, 4 * k + 1, none⟩) (Nat.le_refl _) _).setCell (p := ⟨go, 4 * k + 2, none⟩) (Nat.le_refl _) _).setCell (p := ⟨go, 4 * k + 3, none⟩) (Nat.le_refl _) _⟩
                        rw [show 4 * (k + 1) = 4 * k + 4 by omega, HD4.out]
                        exact (((HR.out.setByte (4 * k) _).setByte (4 * k + 1) _).setByte (4 * k + 2) _).setByte (4 * k + 3) _
                      case measure => simp [intOf]; omega
                    · obtain rfl : k = 8 := by omega
                      obtain ⟨dg, hdg⟩ : ∃ dg, dg = digestTo S 32 := ⟨_, rfl⟩
                      rw [show 4 * 8 = 32 from rfl, ← hdg] at hrow
                      have hdl : dg.length = 32 := by rw [hdg]; exact digestTo_length _ _
                      have hi : (Tryd.prog.info? 23).map (·.size) = some (u8s dg).toArray.size := by
                        rw [List.size_toArray, u8s_length, hdl]; kernel_rfl
                      have hsz : (u8s (List.replicate 32 0)).toArray.size = (u8s dg).toArray.size := by
                        rw [List.size_toArray, List.size_toArray, u8s_length, u8s_length, hdl]; rfl
                      have hro : Row wr w.heap.size 23 (u8s (List.replicate 32 0)).toArray := HRES.out.below (hbel.mono (Nat.le_refl _)) (by have := HRES.out.lt; have := HGO.out; omega)
                      have hbf : Below w.heap.size w wr := HBZ.out.trans (hbel.mono (by have := HGO.out; have := HRES.out.lt; omega))
                      have hfin : dg = sha L := by rw [hdg]; exact HFIN.out
                      have HRD := Lib.hid hrow
                      have HRO := Lib.hid hro
                      have HI := Lib.hid hi
                      have HSZ := Lib.hid hsz
                      have HBF := Lib.hid hbf
                      have HF := Lib.hid hfin
                      clear hrow hbel hdg hdl hi hsz hro hbf hfin HR HB HRES HBZ HRZ
                      go_wp2_with (first | (refine wpList_load_row rfl 23 (.tmp 25) rfl go rfl 23 _ (0, 0) _ HRD.out Tryd.underlying23 rfl HI.out ?_) | (refine wpList_store_row rfl 23 (.tmp 2) _ rfl w.heap.size (u8s dg).toArray rfl rfl 23 _ HRO.out HI.out HSZ.out (u8s_all _) ?_))
                      exact bodyPost_ret (results_cell_row rfl _ _ w.heap.size 23 _ (0, 0) _ rfl (Row.setRowSame HRO.out _) Tryd.underlying23 rfl HI.out) rfl ⟨by rw [HF.out], below_setRow HBF.out (Nat.le_refl _) _⟩
end Go.Proofs.YtgejndannlfhkaaDoor
