/- The loop over the blocks of longwireref02.Sha256. No condition but sizes. -/
import Derived.Test.YtgejndannlfhkaaDoorRefA
import Derived.Test.YtgejndannlfhkaaDoorRefP
import Derived.Test.YtgejndannlfhkaaDoorSha256
import Derived.Test.YtgejndannlfhkaaDoorVals
import Derived.Test.YtgejndannlfhkaaDoorFlowK
import Derived.Test.YtgejndannlfhkaaDoorCut
import Derived.BigQuiet
import Derived.Deep.QuietTactic
import Derived.Test.YtgejndannlfhkaaDoorRefL
import Derived.Test.YtgejndannlfhkaaDoorRefN
import Derived.Test.YtgejndannlfhkaaDoorRefR
namespace Go.Proofs.YtgejndannlfhkaaDoor
open Go Go.RowKit Go.Shelf
attribute [local go_sem] n32_add n32_xor n32_and n32_or n32_flip n32_flipw n32_mod n32_addm

set_option maxRecDepth 100000 in
set_option maxHeartbeats 40000000 in
theorem ref_loop5 {Q0 : Exit → Act → World → Prop} {s0 s1 s2 s4 s5 s6 s7 s9 s12 s13 s14 s15 s16 s17 s18 s19 s20 s21 s22 s23 s24 s25 s26 s27 s28 s29 s30 s31 s32 s33 s34 s35 s36 s37 s38 s39 s40 s41 s42 s43 s44 s45 s46 s47 s48 s49 s50 s51 s52 s53 s54 s55 s56 s57 s58 s59 s60 s61 s62 s63 s64 s65 s66 s67 s68 s69 s70 s71 s72 s73 s74 s75 s76 s77 s78 s79 s80 s81 s82 s83 s84 s85 s86 s87 s88 s89 s90 s91 s92 s93 s94 s95 s96 s97 s98 s99 s100 s101 s102 s103 s104 s105 s106 s107 s108 s109 s110 s111 s112 s113 s114 s115 s116 s117 s118 s119 s120 s121 s122 s123 s124 s125 s126 s127 s128 s129 s130 s131 s132 s133 s134 s135 s136 s137 s138 s139 s140 s141 s142 s143 s144 s145 s146 s147 s148 s149 s150 s151 s152 s153 s154 s155 s156 s157 s158 s159 s160 s161 s162 s163 s164 s165 s166 s167 s168 s169 s170 s171 s172 s173 s174 s175 s176 s177 s178 s179 s180 s181 s182 s183 s184 s185 s186 s187 s188 s189 s190 s191 s192 s193 s194 s195 s196 s197 s198 s199 s200 s201 s202 s203 s204 s205 s206 s207 s208 s209 s210 s211 s212 s213 s214 s215 s216 s217 s218 s219 s220 s221 s222 s223 s224 s225 s226 s227 s228 s229 s230 s231 s232 s233 s234 s235 s236 s237 s238 s239 s240 s241 s242 s243 s244 s245 s246 s247 s248 s249 s250 s251 s252 s253 s254 s255 s256 s257 s258 s259 s260 s261 s262 s263 s264 s265 s266 s267 s268 s269 s270 s271 s272 s273 s274 s275 s276 s277 s278 s279 s280 s281 s282 s283 s284 s285 s286 s287 s288 s289 s290 s291 s292 s293 s294 s295 s296 s297 s298 s299 s300 s301 s302 s303 s304 s305 s306 s307 s308 s309 s310 s311 s312 s313 s314 s315 s316 s317 : Value} (PD : List UInt8) (m ga oa ln c5 gh gk ok ck : Nat) (w : World) (hln : ln = 64 * m) (hm : m ≤ 1099511627776) (hac : ∀ i, i < ln → w.cell? ⟨ga, oa + i, none⟩ = some (.int .u8 (n8 (PD.getD i 0)))) (hga : ga < gh) (hrh : Row w gh 87 (words (stateTo PD 0).list))
    (hkt : ∀ i, i < 64 → w.cell? ⟨gk, ok + i, none⟩ = some (.int .u32 (n32 (kList.getD i 0)))) (hgk : gk < gh) (hpan : ∀ c a d v w, Q0 (.panic c) (Act.put a d v) w → Q0 (.panic c) a w)
    (hexit : ∀ (u12 u13 u14 u15 u16 u17 u18 u19 u20 u21 u22 u23 u24 u75 u76 u77 u78 u79 u80 u81 u82 u83 u84 u85 u86 u87 u88 u89 u90 u91 u92 u93 u94 u95 u96 u97 u98 u99 u100 u101 u102 u103 u104 u105 u106 u107 u108 u109 u110 u111 u112 u113 u114 u115 u116 u117 u118 u119 u120 u121 u122 u123 u124 u125 u126 u127 u128 u129 u130 u131 u132 u133 u134 u135 u136 u137 u138 u139 u140 u141 u142 u143 u144 u145 u146 u147 u148 u149 u150 u151 u152 u153 u154 u155 u156 u157 u158 u159 u160 u161 u162 u163 u164 u165 u166 u167 u168 u169 u170 u171 u172 u173 u174 u175 u176 u177 u178 u179 u180 u181 u182 u183 u184 u185 u186 u187 u188 u189 u190 u191 u192 u193 u194 u195 u196 u197 u198 u199 u200 u201 u202 u203 u204 u205 u206 u207 u208 u209 u210 u211 u212 u213 u214 u215 u216 u217 u218 u219 u220 u221 u222 u223 u224 u225 u226 u227 u228 u229 u230 u231 u232 u233 u234 u235 u236 u237 u238 u239 u240 u241 u242 u243 u244 u245 u246 u247 u248 u249 u250 u251 u252 u253 u254 u255 u256 u257 u258 u259 u260 u261 u262 u263 u264 u265 u266 u267 u268 u269 u270 u271 u272 u273 u274 u275 : Value) (wr : World), Row wr gh 87 (words (stateTo PD m).list) → Below gh w wr → Q0 (.exit 8) ⟨#[s0, s1, s2, .slice (some ⟨ga, oa, none⟩) ln c5, s4, s5, s6, s7, .pointer (some ⟨gh, 0, none⟩), s9, .slice (some ⟨gk, ok, none⟩) 64 ck, .int .i64 (64 * (m : Int)), u12, u13, u14, u15, u16, u17, u18, u19, u20, u21, u22, u23, u24, s25, s26, s27, s28, s29, s30, s31, s32, s33, s34, s35, s36, s37, s38, s39, s40, s41, s42, s43, s44, s45, s46, s47, s48, s49, s50, s51, s52, s53, s54, s55, s56, s57, s58, s59, s60, s61, s62, s63, s64, s65, s66, s67, s68, s69, s70, s71, s72, s73, s74, u75, u76, u77, u78, u79, u80, u81, u82, u83, u84, u85, u86, u87, u88, u89, u90, u91, u92, u93, u94, u95, u96, u97, u98, u99, u100, u101, u102, u103, u104, u105, u106, u107, u108, u109, u110, u111, u112, u113, u114, u115, u116, u117, u118, u119, u120, u121, u122, u123, u124, u125, u126, u127, u128, u129, u130, u131, u132, u133, u134, u135, u136, u137, u138, u139, u140, u141, u142, u143, u144, u145, u146, u147, u148, u149, u150, u151, u152, u153, u154, u155, u156, u157, u158, u159, u160, u161, u162, u163, u164, u165, u166, u167, u168, u169, u170, u171, u172, u173, u174, u175, u176, u177, u178, u179, u180, u181, u182, u183, u184, u185, u186, u187, u188, u189, u190, u191, u192, u193, u194, u195, u196, u197, u198, u199, u200, u201, u202, u203, u204, u205, u206, u207, u208, u209, u210, u211, u212, u213, u214, u215, u216, u217, u218, u219, u220, u221, u222, u223, u224, u225, u226, u227, u228, u229, u230, u231, u232, u233, u234, u235, u236, u237, u238, u239, u240, u241, u242, u243, u244, u245, u246, u247, u248, u249, u250, u251, u252, u253, u254, u255, u256, u257, u258, u259, u260, u261, u262, u263, u264, u265, u266, u267, u268, u269, u270, u271, u272, u273, u274, u275, s276, s277, s278, s279, s280, s281, s282, s283, s284, s285, s286, s287, s288, s289, s290, s291, s292, s293, s294, s295, s296, s297, s298, s299, s300, s301, s302, s303, s304, s305, s306, s307, s308, s309, s310, s311, s312, s313, s314, s315, s316, s317], []⟩ wr) :
    Code.wp Tryd.prog (loopNo Tryd.f13 4) Q0 ⟨#[s0, s1, s2, .slice (some ⟨ga, oa, none⟩) ln c5, s4, s5, s6, s7, .pointer (some ⟨gh, 0, none⟩), s9, .slice (some ⟨gk, ok, none⟩) 64 ck, .int .i64 0, s12, s13, s14, s15, s16, s17, s18, s19, s20, s21, s22, s23, s24, s25, s26, s27, s28, s29, s30, s31, s32, s33, s34, s35, s36, s37, s38, s39, s40, s41, s42, s43, s44, s45, s46, s47, s48, s49, s50, s51, s52, s53, s54, s55, s56, s57, s58, s59, s60, s61, s62, s63, s64, s65, s66, s67, s68, s69, s70, s71, s72, s73, s74, s75, s76, s77, s78, s79, s80, s81, s82, s83, s84, s85, s86, s87, s88, s89, s90, s91, s92, s93, s94, s95, s96, s97, s98, s99, s100, s101, s102, s103, s104, s105, s106, s107, s108, s109, s110, s111, s112, s113, s114, s115, s116, s117, s118, s119, s120, s121, s122, s123, s124, s125, s126, s127, s128, s129, s130, s131, s132, s133, s134, s135, s136, s137, s138, s139, s140, s141, s142, s143, s144, s145, s146, s147, s148, s149, s150, s151, s152, s153, s154, s155, s156, s157, s158, s159, s160, s161, s162, s163, s164, s165, s166, s167, s168, s169, s170, s171, s172, s173, s174, s175, s176, s177, s178, s179, s180, s181, s182, s183, s184, s185, s186, s187, s188, s189, s190, s191, s192, s193, s194, s195, s196, s197, s198, s199, s200, s201, s202, s203, s204, s205, s206, s207, s208, s209, s210, s211, s212, s213, s214, s215, s216, s217, s218, s219, s220, s221, s222, s223, s224, s225, s226, s227, s228, s229, s230, s231, s232, s233, s234, s235, s236, s237, s238, s239, s240, s241, s242, s243, s244, s245, s246, s247, s248, s249, s250, s251, s252, s253, s254, s255, s256, s257, s258, s259, s260, s261, s262, s263, s264, s265, s266, s267, s268, s269, s270, s271, s272, s273, s274, s275, s276, s277, s278, s279, s280, s281, s282, s283, s284, s285, s286, s287, s288, s289, s290, s291, s292, s293, s294, s295, s296, s297, s298, s299, s300, s301, s302, s303, s304, s305, s306, s307, s308, s309, s310, s311, s312, s313, s314, s315, s316, s317], []⟩ w := by
  have HEX := Lib.hid hexit
  have HPAN := Lib.hid hpan
  have HAC := Lib.hid hac
  have HRH := Lib.hid hrh
  have HKT := Lib.hid hkt
  have HLN := Lib.hid hln
  have hlm : (ln : Int) ≤ 70368744177664 := by omega
  clear hexit hpan hac hrh hkt hln
  conv => arg 2; whnf
  dsimp only
  go_loopw [11] (fun i wx => ∃ j : Nat, j ≤ m ∧ i = .int .i64 (64 * (j : Int)) ∧ Row wx gh 87 (words (stateTo PD j).list) ∧ Below gh w wx) (fun i _ => ln - (intOf i).toNat)
  case atStart => exact ⟨0, by omega, rfl, HRH.out, Below.refl _ _⟩
  case round =>
    obtain ⟨j, hj, rfl, hrow, hbel⟩ := hrel
    have HR := Lib.hid hrow
    have HB := Lib.hid hbel
    have hghs := hrow.lt
    clear hrow hbel
    by_cases hjm : j < m
    · have t1 : 64 * (j : Int) + 64 ≤ ln := by have := HLN.out; omega
      have t2 : (ln : Int) ≤ 70368744177728 := by omega
      have t3 : decide (64 * (j : Int) < ln) = true := by simp; omega
      have hac2 : ∀ i, i < 64 → wr.cell? ⟨ga, oa + (64 * j + i), none⟩ = some (.int .u8 (n8 ((chunk PD j).getD i 0))) := fun i hi => by
        rw [chunk_getD _ _ _ hi]
        exact (HB.out.cell (p := ⟨ga, oa + (64 * j + i), none⟩) hga).trans (HAC.out _ (by omega))
      have HAC2 := Lib.hid hac2
      have hga2 : ga < wr.heap.size := by omega
      clear hac2
      go_wp2_with fail
      refine ref_loop6 (chunk PD j) j ln c5 ga oa wr HAC2.out hga2 t1 t2 (fun c a d v w h => HPAN.out c a d v w h) ?_
      intro u14 u15 u16 u81 u82 u83 u84 u85 u86 u87 u88 u89 u90 u91 u92 u93 u94 u95 u96 u97 u98 u99 u100 u101 u102 u103 u104 u105 u106 u107 u108 u109 u110 u111 u112 u113 u114 u115 u116 u117 u118 u119 u120 u121 u122 u123 u124 u125 u126 u127 u128 u129 u130 u131 u132 u133 u134 u135 u136 u137 u138 u139 u140 u141 u142 u143 u144 u145 u146 u147 u148 u149 u150 u151 u152 u153 u154 u155 u156 u157 u158 u159 u160 u161 u162 u163 u164 w6 gw cw hgw hgw2 hb6
      have HGW := Lib.hid hgw
      have HB6 := Lib.hid hb6
      have hgh6 : gh < w6.heap.size := Nat.lt_of_lt_of_le hghs hb6.size
      clear hgw hb6
      obtain ⟨gv, hgv⟩ : ∃ gv, gv = w6.heap.size := ⟨_, rfl⟩
      have HGV := Lib.hid hgv
      have hv0 : Row (w6.alloc (.cells (words (List.replicate 8 0)) 87)) gv 87 (words (List.replicate 8 0)) := by rw [hgv]; exact Row.new _ _ _
      have hvb : Below gv w6 (w6.alloc (.cells (words (List.replicate 8 0)) 87)) := by rw [hgv]; exact (Below.refl _ _).alloc (Nat.le_refl _) _
      have HV0 := Lib.hid hv0
      have HVB := Lib.hid hvb
      rw [← hgv] at hgh6 hgw2
      clear hgv hv0 hvb
      go_wp2_with fail
      rw [← HGV.out]
      have hrh7 : Row (w6.alloc (.cells (words (List.replicate 8 0)) 87)) gh 87 (words (stateTo PD j).list) := (HR.out.below HB6.out hghs).alloc _
      refine ref_loop7 (stateTo PD j) gh gv (w6.alloc (.cells (words (List.replicate 8 0)) 87)) hrh7 HV0.out hgh6 ?_
      intro u165 u166 u167 u168 u169 u170 u171 u172 u173 w7 hr7 hb7
      have HR7 := Lib.hid hr7
      have HB7 : Hid (Below gv w6 w7) := HVB.out.trans hb7
      have HBG7 : Hid (Below gh w w7) := HB.out.trans ((HB6.out.mono (by omega)).trans (HB7.out.mono (by omega)))
      have HRH7 : Hid (Row w7 gh 87 (words (stateTo PD j).list)) := hrh7.below hb7 (by omega)
      clear hr7 hb7 hrh7
      go_wp2_with fail
      refine ref_loop8 (stateTo PD j) (schedTo (chunk PD j) 64) gk ok ck gw cw gv w7 HR7.out (fun i hi => (HBG7.out.cell (p := ⟨gk, ok + i, none⟩) hgk).trans (HKT.out i hi)) (fun i hi => (HB7.out.cell (p := ⟨gw, i, none⟩) hgw2).trans (HGW.out i hi)) (by omega) hgw2 ?_
      intro u20 u21 u22 u23 u174 u175 u176 u177 u178 u179 u180 u181 u182 u183 u184 u185 u186 u187 u188 u189 u190 u191 u192 u193 u194 u195 u196 u197 u198 u199 u200 u201 u202 u203 u204 u205 u206 u207 u208 u209 u210 u211 u212 u213 u214 u215 u216 u217 u218 u219 u220 u221 u222 u223 u224 u225 u226 u227 u228 u229 u230 u231 u232 u233 u234 u235 u236 u237 u238 u239 u240 u241 u242 u243 u244 u245 u246 u247 u248 u249 u250 u251 u252 u253 u254 u255 u256 u257 u258 u259 u260 u261 u262 w8 hr8 hb8
      have HR8 := Lib.hid hr8
      have HBG8 : Hid (Below gh w w8) := HBG7.out.trans (hb8.mono (by omega))
      have HRH8 : Hid (Row w8 gh 87 (words (stateTo PD j).list)) := HRH7.out.below hb8 (by omega)
      clear hr8 hb8 HBG7 HRH7 HR7 HB7
      go_wp2_with fail
      refine ref_loop9 (stateTo PD j).list ((stateTo PD j).rounds (schedTo (chunk PD j) 64) 64).list gh gv w8 rfl rfl HRH8.out HR8.out hgh6 ?_
      intro u263 u264 u265 u266 u267 u268 u269 u270 u271 u272 u273 u274 u275 w9 hr9 hb9
      have HR9 : Hid (Row w9 gh 87 (words (stateTo PD (j + 1)).list)) := hr9
      have HBG9 : Hid (Below gh w w9) := HBG8.out.trans hb9
      clear hr9 hb9 HR8 HBG8 HRH8
      go_wp2_with fail
      go_roundw
      case rel => exact ⟨j + 1, by omega, by go_num, HR9.out, HBG9.out⟩
      case measure => simp [intOf]; omega
    · obtain rfl : j = m := by omega
      have t3 : decide (64 * (j : Int) < ln) = false := by simp; have := HLN.out; omega
      go_wp2_with fail
      exact HEX.out _ _ _ _ _ _ _ _ _ _ _ _ _ _ _ _ _ _ _ _ _ _ _ _ _ _ _ _ _ _ _ _ _ _ _ _ _ _ _ _ _ _ _ _ _ _ _ _ _ _ _ _ _ _ _ _ _ _ _ _ _ _ _ _ _ _ _ _ _ _ _ _ _ _ _ _ _ _ _ _ _ _ _ _ _ _ _ _ _ _ _ _ _ _ _ _ _ _ _ _ _ _ _ _ _ _ _ _ _ _ _ _ _ _ _ _ _ _ _ _ _ _ _ _ _ _ _ _ _ _ _ _ _ _ _ _ _ _ _ _ _ _ _ _ _ _ _ _ _ _ _ _ _ _ _ _ _ _ _ _ _ _ _ _ _ _ _ _ _ _ _ _ _ _ _ _ _ _ _ _ _ _ _ _ _ _ _ _ _ _ _ _ _ _ _ _ _ _ _ _ _ _ _ _ _ _ _ _ _ _ _ _ _ _ wr HR.out HB.out
end Go.Proofs.YtgejndannlfhkaaDoor
