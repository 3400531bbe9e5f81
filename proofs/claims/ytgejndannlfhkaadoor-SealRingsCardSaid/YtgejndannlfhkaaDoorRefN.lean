/- The copying and the adding loop of longwireref02.Sha256. No condition but sizes. -/
import Derived.Test.YtgejndannlfhkaaDoorRefA
import Derived.Test.YtgejndannlfhkaaDoorRefP
import Derived.Test.YtgejndannlfhkaaDoorSha256
import Derived.Test.YtgejndannlfhkaaDoorVals
import Derived.Test.YtgejndannlfhkaaDoorFlowK
import Derived.Test.YtgejndannlfhkaaDoorCut
import Derived.BigQuiet
import Derived.Deep.QuietTactic
namespace Go.Proofs.YtgejndannlfhkaaDoor
open Go Go.RowKit Go.Shelf
attribute [local go_sem] n32_add n32_xor n32_and n32_or n32_flip n32_flipw n32_mod n32_addm

set_option maxRecDepth 100000 in
set_option maxHeartbeats 40000000 in
theorem ref_loop7 {Q0 : Exit → Act → World → Prop} {s0 s1 s2 s3 s4 s5 s6 s7 s9 s10 s11 s12 s13 s14 s15 s16 s19 s20 s21 s22 s23 s24 s25 s26 s27 s28 s29 s30 s31 s32 s33 s34 s35 s36 s37 s38 s39 s40 s41 s42 s43 s44 s45 s46 s47 s48 s49 s50 s51 s52 s53 s54 s55 s56 s57 s58 s59 s60 s61 s62 s63 s64 s65 s66 s67 s68 s69 s70 s71 s72 s73 s74 s75 s76 s77 s78 s79 s80 s81 s82 s83 s84 s85 s86 s87 s88 s89 s90 s91 s92 s93 s94 s95 s96 s97 s98 s99 s100 s101 s102 s103 s104 s105 s106 s107 s108 s109 s110 s111 s112 s113 s114 s115 s116 s117 s118 s119 s120 s121 s122 s123 s124 s125 s126 s127 s128 s129 s130 s131 s132 s133 s134 s135 s136 s137 s138 s139 s140 s141 s142 s143 s144 s145 s146 s147 s148 s149 s150 s151 s152 s153 s154 s155 s156 s157 s158 s159 s160 s161 s162 s163 s164 s165 s166 s167 s168 s169 s170 s171 s172 s173 s174 s175 s176 s177 s178 s179 s180 s181 s182 s183 s184 s185 s186 s187 s188 s189 s190 s191 s192 s193 s194 s195 s196 s197 s198 s199 s200 s201 s202 s203 s204 s205 s206 s207 s208 s209 s210 s211 s212 s213 s214 s215 s216 s217 s218 s219 s220 s221 s222 s223 s224 s225 s226 s227 s228 s229 s230 s231 s232 s233 s234 s235 s236 s237 s238 s239 s240 s241 s242 s243 s244 s245 s246 s247 s248 s249 s250 s251 s252 s253 s254 s255 s256 s257 s258 s259 s260 s261 s262 s263 s264 s265 s266 s267 s268 s269 s270 s271 s272 s273 s274 s275 s276 s277 s278 s279 s280 s281 s282 s283 s284 s285 s286 s287 s288 s289 s290 s291 s292 s293 s294 s295 s296 s297 s298 s299 s300 s301 s302 s303 s304 s305 s306 s307 s308 s309 s310 s311 s312 s313 s314 s315 s316 s317 : Value} (st : S8) (gh gv : Nat) (wv : World) (hrh : Row wv gh 87 (words st.list)) (hrv : Row wv gv 87 (words (List.replicate 8 0))) (hlt : gh < gv)
    (hexit : ∀ (u165 u166 u167 u168 u169 u170 u171 u172 u173 : Value) (wr : World), Row wr gv 87 (words st.list) → Below gv wv wr → Q0 (.exit 12) ⟨#[s0, s1, s2, s3, s4, s5, s6, s7, .pointer (some ⟨gh, 0, none⟩), s9, s10, s11, s12, s13, s14, s15, s16, .pointer (some ⟨gv, 0, none⟩), .int .i64 8, s19, s20, s21, s22, s23, s24, s25, s26, s27, s28, s29, s30, s31, s32, s33, s34, s35, s36, s37, s38, s39, s40, s41, s42, s43, s44, s45, s46, s47, s48, s49, s50, s51, s52, s53, s54, s55, s56, s57, s58, s59, s60, s61, s62, s63, s64, s65, s66, s67, s68, s69, s70, s71, s72, s73, s74, s75, s76, s77, s78, s79, s80, s81, s82, s83, s84, s85, s86, s87, s88, s89, s90, s91, s92, s93, s94, s95, s96, s97, s98, s99, s100, s101, s102, s103, s104, s105, s106, s107, s108, s109, s110, s111, s112, s113, s114, s115, s116, s117, s118, s119, s120, s121, s122, s123, s124, s125, s126, s127, s128, s129, s130, s131, s132, s133, s134, s135, s136, s137, s138, s139, s140, s141, s142, s143, s144, s145, s146, s147, s148, s149, s150, s151, s152, s153, s154, s155, s156, s157, s158, s159, s160, s161, s162, s163, s164, u165, u166, u167, u168, u169, u170, u171, u172, u173, s174, s175, s176, s177, s178, s179, s180, s181, s182, s183, s184, s185, s186, s187, s188, s189, s190, s191, s192, s193, s194, s195, s196, s197, s198, s199, s200, s201, s202, s203, s204, s205, s206, s207, s208, s209, s210, s211, s212, s213, s214, s215, s216, s217, s218, s219, s220, s221, s222, s223, s224, s225, s226, s227, s228, s229, s230, s231, s232, s233, s234, s235, s236, s237, s238, s239, s240, s241, s242, s243, s244, s245, s246, s247, s248, s249, s250, s251, s252, s253, s254, s255, s256, s257, s258, s259, s260, s261, s262, s263, s264, s265, s266, s267, s268, s269, s270, s271, s272, s273, s274, s275, s276, s277, s278, s279, s280, s281, s282, s283, s284, s285, s286, s287, s288, s289, s290, s291, s292, s293, s294, s295, s296, s297, s298, s299, s300, s301, s302, s303, s304, s305, s306, s307, s308, s309, s310, s311, s312, s313, s314, s315, s316, s317], []⟩ wr) :
    Code.wp Tryd.prog (loopNo Tryd.f13 6) Q0 ⟨#[s0, s1, s2, s3, s4, s5, s6, s7, .pointer (some ⟨gh, 0, none⟩), s9, s10, s11, s12, s13, s14, s15, s16, .pointer (some ⟨gv, 0, none⟩), .int .i64 0, s19, s20, s21, s22, s23, s24, s25, s26, s27, s28, s29, s30, s31, s32, s33, s34, s35, s36, s37, s38, s39, s40, s41, s42, s43, s44, s45, s46, s47, s48, s49, s50, s51, s52, s53, s54, s55, s56, s57, s58, s59, s60, s61, s62, s63, s64, s65, s66, s67, s68, s69, s70, s71, s72, s73, s74, s75, s76, s77, s78, s79, s80, s81, s82, s83, s84, s85, s86, s87, s88, s89, s90, s91, s92, s93, s94, s95, s96, s97, s98, s99, s100, s101, s102, s103, s104, s105, s106, s107, s108, s109, s110, s111, s112, s113, s114, s115, s116, s117, s118, s119, s120, s121, s122, s123, s124, s125, s126, s127, s128, s129, s130, s131, s132, s133, s134, s135, s136, s137, s138, s139, s140, s141, s142, s143, s144, s145, s146, s147, s148, s149, s150, s151, s152, s153, s154, s155, s156, s157, s158, s159, s160, s161, s162, s163, s164, s165, s166, s167, s168, s169, s170, s171, s172, s173, s174, s175, s176, s177, s178, s179, s180, s181, s182, s183, s184, s185, s186, s187, s188, s189, s190, s191, s192, s193, s194, s195, s196, s197, s198, s199, s200, s201, s202, s203, s204, s205, s206, s207, s208, s209, s210, s211, s212, s213, s214, s215, s216, s217, s218, s219, s220, s221, s222, s223, s224, s225, s226, s227, s228, s229, s230, s231, s232, s233, s234, s235, s236, s237, s238, s239, s240, s241, s242, s243, s244, s245, s246, s247, s248, s249, s250, s251, s252, s253, s254, s255, s256, s257, s258, s259, s260, s261, s262, s263, s264, s265, s266, s267, s268, s269, s270, s271, s272, s273, s274, s275, s276, s277, s278, s279, s280, s281, s282, s283, s284, s285, s286, s287, s288, s289, s290, s291, s292, s293, s294, s295, s296, s297, s298, s299, s300, s301, s302, s303, s304, s305, s306, s307, s308, s309, s310, s311, s312, s313, s314, s315, s316, s317], []⟩ wv := by
  have HEX := Lib.hid hexit
  have HRH := Lib.hid hrh
  have HRV := Lib.hid hrv
  clear hexit hrh hrv
  conv => arg 2; whnf
  dsimp only
  go_loopw [18] (fun i wx => ∃ k : Nat, k ≤ 8 ∧ i = .int .i64 k ∧ Row wx gv 87 (words (copyTo st.list (List.replicate 8 0) k)) ∧ Below gv wv wx) (fun i _ => 8 - (intOf i).toNat)
  case atStart => exact ⟨0, by omega, rfl, HRV.out, Below.refl _ _⟩
  case round =>
    obtain ⟨k, hk, rfl, hrow, hbel⟩ := hrel
    have HR := Lib.hid hrow
    have HB := Lib.hid hbel
    by_cases hk8 : k < 8
    · obtain ⟨x, hx⟩ : ∃ x, x = st.list.getD k 0 := ⟨_, rfl⟩
      have hst' : wr.cell? ⟨gh, k, none⟩ = some (.int .u32 (n32 x)) := by rw [hx]; exact (hbel.cell (p := ⟨gh, k, none⟩) hlt).trans (HRH.out.word (by simp [S8.list]; omega))
      have hhc : wr.cell? ⟨gv, k, none⟩ = some (.int .u32 (n32 ((copyTo st.list (List.replicate 8 0) k).getD k 0))) := hrow.word (by rw [copyTo_length]; simp; omega)
      obtain ⟨y, hy⟩ : ∃ y, y = (copyTo st.list (List.replicate 8 0) k).getD k 0 := ⟨_, rfl⟩
      rw [← hy] at hhc
      have hfr : wr.frozen? ⟨gv, k, none⟩ = false := hrow.free k
      have hnext : copyTo st.list (List.replicate 8 0) (k + 1) = (copyTo st.list (List.replicate 8 0) k).set k x := by rw [copyTo, ← hx]
      have HN := Lib.hid hnext
      clear hrow hbel hx hy hnext
      have q0 : (0 : Int) ≤ k := by omega
      have q1 : (k : Int) < 8 := by omega
      go_wp2_with fail
      go_roundw
      case rel =>
        refine ⟨k + 1, by omega, by go_num, ?_, HB.out.setCell (p := ⟨gv, k, none⟩) (Nat.le_refl _) _⟩
        rw [HN.out]
        exact HR.out.setWord k x
      case measure => simp [intOf]; omega
    · obtain rfl : k = 8 := by omega
      rw [copy_eight] at HR
      rw [show ((8 : Nat) : Int) = 8 from rfl]
      clear hrow hbel
      go_wp2_with fail
      exact HEX.out _ _ _ _ _ _ _ _ _ wr HR.out HB.out

set_option maxRecDepth 100000 in
set_option maxHeartbeats 40000000 in
theorem ref_loop9 {Q0 : Exit → Act → World → Prop} {s0 s1 s2 s3 s4 s5 s6 s7 s9 s10 s11 s12 s13 s14 s15 s16 s18 s19 s20 s21 s22 s23 s25 s26 s27 s28 s29 s30 s31 s32 s33 s34 s35 s36 s37 s38 s39 s40 s41 s42 s43 s44 s45 s46 s47 s48 s49 s50 s51 s52 s53 s54 s55 s56 s57 s58 s59 s60 s61 s62 s63 s64 s65 s66 s67 s68 s69 s70 s71 s72 s73 s74 s75 s76 s77 s78 s79 s80 s81 s82 s83 s84 s85 s86 s87 s88 s89 s90 s91 s92 s93 s94 s95 s96 s97 s98 s99 s100 s101 s102 s103 s104 s105 s106 s107 s108 s109 s110 s111 s112 s113 s114 s115 s116 s117 s118 s119 s120 s121 s122 s123 s124 s125 s126 s127 s128 s129 s130 s131 s132 s133 s134 s135 s136 s137 s138 s139 s140 s141 s142 s143 s144 s145 s146 s147 s148 s149 s150 s151 s152 s153 s154 s155 s156 s157 s158 s159 s160 s161 s162 s163 s164 s165 s166 s167 s168 s169 s170 s171 s172 s173 s174 s175 s176 s177 s178 s179 s180 s181 s182 s183 s184 s185 s186 s187 s188 s189 s190 s191 s192 s193 s194 s195 s196 s197 s198 s199 s200 s201 s202 s203 s204 s205 s206 s207 s208 s209 s210 s211 s212 s213 s214 s215 s216 s217 s218 s219 s220 s221 s222 s223 s224 s225 s226 s227 s228 s229 s230 s231 s232 s233 s234 s235 s236 s237 s238 s239 s240 s241 s242 s243 s244 s245 s246 s247 s248 s249 s250 s251 s252 s253 s254 s255 s256 s257 s258 s259 s260 s261 s262 s263 s264 s265 s266 s267 s268 s269 s270 s271 s272 s273 s274 s275 s276 s277 s278 s279 s280 s281 s282 s283 s284 s285 s286 s287 s288 s289 s290 s291 s292 s293 s294 s295 s296 s297 s298 s299 s300 s301 s302 s303 s304 s305 s306 s307 s308 s309 s310 s311 s312 s313 s314 s315 s316 s317 : Value} (l r : List W32) (gh gv : Nat) (wv : World) (hll : l.length = 8) (hrl : r.length = 8) (hrh : Row wv gh 87 (words l)) (hrv : Row wv gv 87 (words r)) (hlt : gh < gv)
    (hexit : ∀ (u263 u264 u265 u266 u267 u268 u269 u270 u271 u272 u273 u274 u275 : Value) (wr : World), Row wr gh 87 (words (addTo l r 8)) → Below gh wv wr → Q0 (.exit 16) ⟨#[s0, s1, s2, s3, s4, s5, s6, s7, .pointer (some ⟨gh, 0, none⟩), s9, s10, s11, s12, s13, s14, s15, s16, .pointer (some ⟨gv, 0, none⟩), s18, s19, s20, s21, s22, s23, .int .i64 8, s25, s26, s27, s28, s29, s30, s31, s32, s33, s34, s35, s36, s37, s38, s39, s40, s41, s42, s43, s44, s45, s46, s47, s48, s49, s50, s51, s52, s53, s54, s55, s56, s57, s58, s59, s60, s61, s62, s63, s64, s65, s66, s67, s68, s69, s70, s71, s72, s73, s74, s75, s76, s77, s78, s79, s80, s81, s82, s83, s84, s85, s86, s87, s88, s89, s90, s91, s92, s93, s94, s95, s96, s97, s98, s99, s100, s101, s102, s103, s104, s105, s106, s107, s108, s109, s110, s111, s112, s113, s114, s115, s116, s117, s118, s119, s120, s121, s122, s123, s124, s125, s126, s127, s128, s129, s130, s131, s132, s133, s134, s135, s136, s137, s138, s139, s140, s141, s142, s143, s144, s145, s146, s147, s148, s149, s150, s151, s152, s153, s154, s155, s156, s157, s158, s159, s160, s161, s162, s163, s164, s165, s166, s167, s168, s169, s170, s171, s172, s173, s174, s175, s176, s177, s178, s179, s180, s181, s182, s183, s184, s185, s186, s187, s188, s189, s190, s191, s192, s193, s194, s195, s196, s197, s198, s199, s200, s201, s202, s203, s204, s205, s206, s207, s208, s209, s210, s211, s212, s213, s214, s215, s216, s217, s218, s219, s220, s221, s222, s223, s224, s225, s226, s227, s228, s229, s230, s231, s232, s233, s234, s235, s236, s237, s238, s239, s240, s241, s242, s243, s244, s245, s246, s247, s248, s249, s250, s251, s252, s253, s254, s255, s256, s257, s258, s259, s260, s261, s262, u263, u264, u265, u266, u267, u268, u269, u270, u271, u272, u273, u274, u275, s276, s277, s278, s279, s280, s281, s282, s283, s284, s285, s286, s287, s288, s289, s290, s291, s292, s293, s294, s295, s296, s297, s298, s299, s300, s301, s302, s303, s304, s305, s306, s307, s308, s309, s310, s311, s312, s313, s314, s315, s316, s317], []⟩ wr) :
    Code.wp Tryd.prog (loopNo Tryd.f13 8) Q0 ⟨#[s0, s1, s2, s3, s4, s5, s6, s7, .pointer (some ⟨gh, 0, none⟩), s9, s10, s11, s12, s13, s14, s15, s16, .pointer (some ⟨gv, 0, none⟩), s18, s19, s20, s21, s22, s23, .int .i64 0, s25, s26, s27, s28, s29, s30, s31, s32, s33, s34, s35, s36, s37, s38, s39, s40, s41, s42, s43, s44, s45, s46, s47, s48, s49, s50, s51, s52, s53, s54, s55, s56, s57, s58, s59, s60, s61, s62, s63, s64, s65, s66, s67, s68, s69, s70, s71, s72, s73, s74, s75, s76, s77, s78, s79, s80, s81, s82, s83, s84, s85, s86, s87, s88, s89, s90, s91, s92, s93, s94, s95, s96, s97, s98, s99, s100, s101, s102, s103, s104, s105, s106, s107, s108, s109, s110, s111, s112, s113, s114, s115, s116, s117, s118, s119, s120, s121, s122, s123, s124, s125, s126, s127, s128, s129, s130, s131, s132, s133, s134, s135, s136, s137, s138, s139, s140, s141, s142, s143, s144, s145, s146, s147, s148, s149, s150, s151, s152, s153, s154, s155, s156, s157, s158, s159, s160, s161, s162, s163, s164, s165, s166, s167, s168, s169, s170, s171, s172, s173, s174, s175, s176, s177, s178, s179, s180, s181, s182, s183, s184, s185, s186, s187, s188, s189, s190, s191, s192, s193, s194, s195, s196, s197, s198, s199, s200, s201, s202, s203, s204, s205, s206, s207, s208, s209, s210, s211, s212, s213, s214, s215, s216, s217, s218, s219, s220, s221, s222, s223, s224, s225, s226, s227, s228, s229, s230, s231, s232, s233, s234, s235, s236, s237, s238, s239, s240, s241, s242, s243, s244, s245, s246, s247, s248, s249, s250, s251, s252, s253, s254, s255, s256, s257, s258, s259, s260, s261, s262, s263, s264, s265, s266, s267, s268, s269, s270, s271, s272, s273, s274, s275, s276, s277, s278, s279, s280, s281, s282, s283, s284, s285, s286, s287, s288, s289, s290, s291, s292, s293, s294, s295, s296, s297, s298, s299, s300, s301, s302, s303, s304, s305, s306, s307, s308, s309, s310, s311, s312, s313, s314, s315, s316, s317], []⟩ wv := by
  have HEX := Lib.hid hexit
  have HRH := Lib.hid hrh
  have HRV := Lib.hid hrv
  have HLL := Lib.hid hll
  have HRL := Lib.hid hrl
  have hne : gh ≠ gv := by omega
  have hne2 : gv ≠ gh := by omega
  clear hexit hrh hrv hll hrl
  conv => arg 2; whnf
  dsimp only
  go_loopw [24] (fun i wx => ∃ k : Nat, k ≤ 8 ∧ i = .int .i64 k ∧ Row wx gh 87 (words (addTo l r k)) ∧ Row wx gv 87 (words r) ∧ Below gh wv wx) (fun i _ => 8 - (intOf i).toNat)
  case atStart => exact ⟨0, by omega, rfl, HRH.out, HRV.out, Below.refl _ _⟩
  case round =>
    obtain ⟨k, hk, rfl, hrow, hrv, hbel⟩ := hrel
    have HR := Lib.hid hrow
    have HV := Lib.hid hrv
    have HB := Lib.hid hbel
    by_cases hk8 : k < 8
    · obtain ⟨p, hp⟩ : ∃ p, p = (addTo l r k).getD k 0 := ⟨_, rfl⟩
      obtain ⟨q, hq⟩ : ∃ q, q = r.getD k 0 := ⟨_, rfl⟩
      have hcs : wr.cell? ⟨gh, k, none⟩ = some (.int .u32 (n32 p)) := by rw [hp]; exact hrow.word (by rw [addTo_length, HLL.out]; exact hk8)
      have hcx : wr.cell? ⟨gv, k, none⟩ = some (.int .u32 (n32 q)) := by rw [hq]; exact hrv.word (by rw [HRL.out]; exact hk8)
      have hfr : wr.frozen? ⟨gh, k, none⟩ = false := hrow.free k
      have hnext : addTo l r (k + 1) = (addTo l r k).set k (p + q) := by rw [addTo, ← hp, ← hq]
      have HN := Lib.hid hnext
      clear hrow hrv hbel hp hq hnext
      have q0 : (0 : Int) ≤ k := by omega
      have q1 : (k : Int) < 8 := by omega
      go_wp2_with fail
      refine wp_region_quiet_tail_lit 9 (by kernel_rfl) (by kernel_rfl) ?_
      simp only [List.take_succ_cons, List.take_zero, List.drop_succ_cons, List.drop_zero]
      repeat (go_big_quiet_step (fail))
      refine wpQuiet_nil ?_
      rintro w4 ⟨nq4, rfl⟩
      go_wp2_with fail
      go_roundw
      case rel =>
        refine ⟨k + 1, by omega, by go_num, ?_, ?_, (below_drewN HB.out nq4).setCell (p := ⟨gh, k, none⟩) (Nat.le_refl _) _⟩
        · rw [HN.out]; exact (HR.out.drewN nq4).setWord k (p + q)
        · exact (HV.out.drewN nq4).other (a := ⟨gh, k, none⟩) hne2 _
      case measure => simp [intOf]; omega
    · obtain rfl : k = 8 := by omega
      rw [show ((8 : Nat) : Int) = 8 from rfl]
      clear hrow hrv hbel
      go_wp2_with fail
      exact HEX.out _ _ _ _ _ _ _ _ _ _ _ _ _ wr HR.out HB.out
end Go.Proofs.YtgejndannlfhkaaDoor
