/- The rounds of longwireref02.Sha256. No condition but sizes. -/
import Derived.Test.YtgejndannlfhkaaDoorRefA
import Derived.Test.YtgejndannlfhkaaDoorRefP
import Derived.Test.YtgejndannlfhkaaDoorSha256
import Derived.Test.YtgejndannlfhkaaDoorVals
import Derived.Test.YtgejndannlfhkaaDoorFlowK
import Derived.Test.YtgejndannlfhkaaDoorCut
import Derived.BigQuiet
import Derived.Deep.QuietTactic
namespace Go.Proofs.YtgejndannlfhkaaDoor
open Go Go.RowKit Go.Shelf
attribute [local go_sem] n32_add n32_xor n32_and n32_or n32_flip n32_flipw n32_mod n32_addm

theorem store_eight {w wv : World} {gv : Nat} {T : TypeId} {a b c d e f g h : W32} (hr : Row w gv T (words [a, b, c, d, e, f, g, h])) (hb : Below gv wv w) (x0 x1 x2 x3 x4 x5 x6 x7 : W32) (W : World)
    (hW : W = ((((((((w.setCell ⟨gv, 7, none⟩ (.int .u32 (n32 x7))).setCell ⟨gv, 6, none⟩ (.int .u32 (n32 x6))).setCell ⟨gv, 5, none⟩ (.int .u32 (n32 x5))).setCell ⟨gv, 4, none⟩ (.int .u32 (n32 x4))).setCell ⟨gv, 3, none⟩ (.int .u32 (n32 x3))).setCell ⟨gv, 2, none⟩ (.int .u32 (n32 x2))).setCell ⟨gv, 1, none⟩ (.int .u32 (n32 x1))).setCell ⟨gv, 0, none⟩ (.int .u32 (n32 x0)))) :
    Row W gv T (words [x0, x1, x2, x3, x4, x5, x6, x7]) ∧ Below gv wv W := by
  subst hW
  exact ⟨(((((((hr.setWord 7 x7).setWord 6 x6).setWord 5 x5).setWord 4 x4).setWord 3 x3).setWord 2 x2).setWord 1 x1).setWord 0 x0,
    (((((((hb.setCell (p := ⟨gv, 7, none⟩) (Nat.le_refl _) _).setCell (p := ⟨gv, 6, none⟩) (Nat.le_refl _) _).setCell (p := ⟨gv, 5, none⟩) (Nat.le_refl _) _).setCell (p := ⟨gv, 4, none⟩) (Nat.le_refl _) _).setCell (p := ⟨gv, 3, none⟩) (Nat.le_refl _) _).setCell (p := ⟨gv, 2, none⟩) (Nat.le_refl _) _).setCell (p := ⟨gv, 1, none⟩) (Nat.le_refl _) _).setCell (p := ⟨gv, 0, none⟩) (Nat.le_refl _) _⟩
theorem round_list (a b c d e f g h k x : W32) : (S8.round ⟨a, b, c, d, e, f, g, h⟩ k x).list = [h + (e.rotateRight 6 ^^^ e.rotateRight 11 ^^^ e.rotateRight 25) + (e &&& f ^^^ ~~~e &&& g) + k + x + ((a.rotateRight 2 ^^^ a.rotateRight 13 ^^^ a.rotateRight 22) + (a &&& b ^^^ a &&& c ^^^ b &&& c)), a, b, c,
    d + (h + (e.rotateRight 6 ^^^ e.rotateRight 11 ^^^ e.rotateRight 25) + (e &&& f ^^^ ~~~e &&& g) + k + x), e, f, g] := rfl

set_option maxRecDepth 100000 in
set_option maxHeartbeats 40000000 in
theorem ref_loop8 {Q0 : Exit → Act → World → Prop} {s0 s1 s2 s3 s4 s5 s6 s7 s8 s9 s11 s13 s14 s15 s16 s18 s20 s21 s22 s23 s24 s25 s26 s27 s28 s29 s30 s31 s32 s33 s34 s35 s36 s37 s38 s39 s40 s41 s42 s43 s44 s45 s46 s47 s48 s49 s50 s51 s52 s53 s54 s55 s56 s57 s58 s59 s60 s61 s62 s63 s64 s65 s66 s67 s68 s69 s70 s71 s72 s73 s74 s75 s76 s77 s78 s79 s80 s81 s82 s83 s84 s85 s86 s87 s88 s89 s90 s91 s92 s93 s94 s95 s96 s97 s98 s99 s100 s101 s102 s103 s104 s105 s106 s107 s108 s109 s110 s111 s112 s113 s114 s115 s116 s117 s118 s119 s120 s121 s122 s123 s124 s125 s126 s127 s128 s129 s130 s131 s132 s133 s134 s135 s136 s137 s138 s139 s140 s141 s142 s143 s144 s145 s146 s147 s148 s149 s150 s151 s152 s153 s154 s155 s156 s157 s158 s159 s160 s161 s162 s163 s164 s165 s166 s167 s168 s169 s170 s171 s172 s173 s174 s175 s176 s177 s178 s179 s180 s181 s182 s183 s184 s185 s186 s187 s188 s189 s190 s191 s192 s193 s194 s195 s196 s197 s198 s199 s200 s201 s202 s203 s204 s205 s206 s207 s208 s209 s210 s211 s212 s213 s214 s215 s216 s217 s218 s219 s220 s221 s222 s223 s224 s225 s226 s227 s228 s229 s230 s231 s232 s233 s234 s235 s236 s237 s238 s239 s240 s241 s242 s243 s244 s245 s246 s247 s248 s249 s250 s251 s252 s253 s254 s255 s256 s257 s258 s259 s260 s261 s262 s263 s264 s265 s266 s267 s268 s269 s270 s271 s272 s273 s274 s275 s276 s277 s278 s279 s280 s281 s282 s283 s284 s285 s286 s287 s288 s289 s290 s291 s292 s293 s294 s295 s296 s297 s298 s299 s300 s301 s302 s303 s304 s305 s306 s307 s308 s309 s310 s311 s312 s313 s314 s315 s316 s317 : Value} (st : S8) (ws : List W32) (gk ok ck gw cw gv : Nat) (wv : World) (hrv : Row wv gv 87 (words st.list)) (hkt : ∀ i, i < 64 → wv.cell? ⟨gk, ok + i, none⟩ = some (.int .u32 (n32 (kList.getD i 0)))) (hgw : ∀ i, i < 64 → wv.cell? ⟨gw, i, none⟩ = some (.int .u32 (n32 (ws.getD i 0))))
    (hgkv : gk < gv) (hgwv : gw < gv)
    (hexit : ∀ (u20 u21 u22 u23 u174 u175 u176 u177 u178 u179 u180 u181 u182 u183 u184 u185 u186 u187 u188 u189 u190 u191 u192 u193 u194 u195 u196 u197 u198 u199 u200 u201 u202 u203 u204 u205 u206 u207 u208 u209 u210 u211 u212 u213 u214 u215 u216 u217 u218 u219 u220 u221 u222 u223 u224 u225 u226 u227 u228 u229 u230 u231 u232 u233 u234 u235 u236 u237 u238 u239 u240 u241 u242 u243 u244 u245 u246 u247 u248 u249 u250 u251 u252 u253 u254 u255 u256 u257 u258 u259 u260 u261 u262 : Value) (wr : World), Row wr gv 87 (words (st.rounds ws 64).list) → Below gv wv wr → Q0 (.exit 14) ⟨#[s0, s1, s2, s3, s4, s5, s6, s7, s8, s9, .slice (some ⟨gk, ok, none⟩) 64 ck, s11, .slice (some ⟨gw, 0, none⟩) 64 cw, s13, s14, s15, s16, .pointer (some ⟨gv, 0, none⟩), s18, .int .i64 64, u20, u21, u22, u23, s24, s25, s26, s27, s28, s29, s30, s31, s32, s33, s34, s35, s36, s37, s38, s39, s40, s41, s42, s43, s44, s45, s46, s47, s48, s49, s50, s51, s52, s53, s54, s55, s56, s57, s58, s59, s60, s61, s62, s63, s64, s65, s66, s67, s68, s69, s70, s71, s72, s73, s74, s75, s76, s77, s78, s79, s80, s81, s82, s83, s84, s85, s86, s87, s88, s89, s90, s91, s92, s93, s94, s95, s96, s97, s98, s99, s100, s101, s102, s103, s104, s105, s106, s107, s108, s109, s110, s111, s112, s113, s114, s115, s116, s117, s118, s119, s120, s121, s122, s123, s124, s125, s126, s127, s128, s129, s130, s131, s132, s133, s134, s135, s136, s137, s138, s139, s140, s141, s142, s143, s144, s145, s146, s147, s148, s149, s150, s151, s152, s153, s154, s155, s156, s157, s158, s159, s160, s161, s162, s163, s164, s165, s166, s167, s168, s169, s170, s171, s172, s173, u174, u175, u176, u177, u178, u179, u180, u181, u182, u183, u184, u185, u186, u187, u188, u189, u190, u191, u192, u193, u194, u195, u196, u197, u198, u199, u200, u201, u202, u203, u204, u205, u206, u207, u208, u209, u210, u211, u212, u213, u214, u215, u216, u217, u218, u219, u220, u221, u222, u223, u224, u225, u226, u227, u228, u229, u230, u231, u232, u233, u234, u235, u236, u237, u238, u239, u240, u241, u242, u243, u244, u245, u246, u247, u248, u249, u250, u251, u252, u253, u254, u255, u256, u257, u258, u259, u260, u261, u262, s263, s264, s265, s266, s267, s268, s269, s270, s271, s272, s273, s274, s275, s276, s277, s278, s279, s280, s281, s282, s283, s284, s285, s286, s287, s288, s289, s290, s291, s292, s293, s294, s295, s296, s297, s298, s299, s300, s301, s302, s303, s304, s305, s306, s307, s308, s309, s310, s311, s312, s313, s314, s315, s316, s317], []⟩ wr) :
    Code.wp Tryd.prog (loopNo Tryd.f13 7) Q0 ⟨#[s0, s1, s2, s3, s4, s5, s6, s7, s8, s9, .slice (some ⟨gk, ok, none⟩) 64 ck, s11, .slice (some ⟨gw, 0, none⟩) 64 cw, s13, s14, s15, s16, .pointer (some ⟨gv, 0, none⟩), s18, .int .i64 0, s20, s21, s22, s23, s24, s25, s26, s27, s28, s29, s30, s31, s32, s33, s34, s35, s36, s37, s38, s39, s40, s41, s42, s43, s44, s45, s46, s47, s48, s49, s50, s51, s52, s53, s54, s55, s56, s57, s58, s59, s60, s61, s62, s63, s64, s65, s66, s67, s68, s69, s70, s71, s72, s73, s74, s75, s76, s77, s78, s79, s80, s81, s82, s83, s84, s85, s86, s87, s88, s89, s90, s91, s92, s93, s94, s95, s96, s97, s98, s99, s100, s101, s102, s103, s104, s105, s106, s107, s108, s109, s110, s111, s112, s113, s114, s115, s116, s117, s118, s119, s120, s121, s122, s123, s124, s125, s126, s127, s128, s129, s130, s131, s132, s133, s134, s135, s136, s137, s138, s139, s140, s141, s142, s143, s144, s145, s146, s147, s148, s149, s150, s151, s152, s153, s154, s155, s156, s157, s158, s159, s160, s161, s162, s163, s164, s165, s166, s167, s168, s169, s170, s171, s172, s173, s174, s175, s176, s177, s178, s179, s180, s181, s182, s183, s184, s185, s186, s187, s188, s189, s190, s191, s192, s193, s194, s195, s196, s197, s198, s199, s200, s201, s202, s203, s204, s205, s206, s207, s208, s209, s210, s211, s212, s213, s214, s215, s216, s217, s218, s219, s220, s221, s222, s223, s224, s225, s226, s227, s228, s229, s230, s231, s232, s233, s234, s235, s236, s237, s238, s239, s240, s241, s242, s243, s244, s245, s246, s247, s248, s249, s250, s251, s252, s253, s254, s255, s256, s257, s258, s259, s260, s261, s262, s263, s264, s265, s266, s267, s268, s269, s270, s271, s272, s273, s274, s275, s276, s277, s278, s279, s280, s281, s282, s283, s284, s285, s286, s287, s288, s289, s290, s291, s292, s293, s294, s295, s296, s297, s298, s299, s300, s301, s302, s303, s304, s305, s306, s307, s308, s309, s310, s311, s312, s313, s314, s315, s316, s317], []⟩ wv := by
  have HEX := Lib.hid hexit
  have HRV := Lib.hid hrv
  have HKT := Lib.hid hkt
  have HGW := Lib.hid hgw
  clear hexit hrv hkt hgw
  conv => arg 2; whnf
  dsimp only
  go_loopw [19] (fun i wx => ∃ t : Nat, t ≤ 64 ∧ i = .int .i64 t ∧ Row wx gv 87 (words (st.rounds ws t).list) ∧ Below gv wv wx) (fun i _ => 64 - (intOf i).toNat)
  case atStart => exact ⟨0, by omega, rfl, HRV.out, Below.refl _ _⟩
  case round =>
    obtain ⟨t, ht, rfl, hrow, hbel⟩ := hrel
    by_cases hlt : t < 64
    · obtain ⟨k, hkk⟩ : ∃ k, k = kList.getD t 0 := ⟨_, rfl⟩
      obtain ⟨x, hxx⟩ : ∃ x, x = ws.getD t 0 := ⟨_, rfl⟩
      obtain ⟨r, hrr⟩ : ∃ r, r = st.rounds ws t := ⟨_, rfl⟩
      have hnext : st.rounds ws (t + 1) = r.round k x := by rw [S8.rounds, ← hkk, ← hxx, ← hrr]
      have hkc : wr.cell? ⟨gk, ok + t, none⟩ = some (.int .u32 (n32 k)) := by
        rw [hkk]; exact (hbel.cell (p := ⟨gk, ok + t, none⟩) hgkv).trans (HKT.out t hlt)
      have hwc' : wr.cell? ⟨gw, t, none⟩ = some (.int .u32 (n32 x)) := by
        rw [hxx]; exact (hbel.cell (p := ⟨gw, t, none⟩) hgwv).trans (HGW.out t hlt)
      rw [← hrr] at hrow
      obtain ⟨a, b, c', d, e, f, g, h⟩ := r
      have hx0 : wr.cell? ⟨gv, 0, none⟩ = some (.int .u32 (n32 a)) := hrow.word (i := 0) (by simp [S8.list])
      have hx1 : wr.cell? ⟨gv, 1, none⟩ = some (.int .u32 (n32 b)) := hrow.word (i := 1) (by simp [S8.list])
      have hx2 : wr.cell? ⟨gv, 2, none⟩ = some (.int .u32 (n32 c')) := hrow.word (i := 2) (by simp [S8.list])
      have hx3 : wr.cell? ⟨gv, 3, none⟩ = some (.int .u32 (n32 d)) := hrow.word (i := 3) (by simp [S8.list])
      have hx4 : wr.cell? ⟨gv, 4, none⟩ = some (.int .u32 (n32 e)) := hrow.word (i := 4) (by simp [S8.list])
      have hx5 : wr.cell? ⟨gv, 5, none⟩ = some (.int .u32 (n32 f)) := hrow.word (i := 5) (by simp [S8.list])
      have hx6 : wr.cell? ⟨gv, 6, none⟩ = some (.int .u32 (n32 g)) := hrow.word (i := 6) (by simp [S8.list])
      have hx7 : wr.cell? ⟨gv, 7, none⟩ = some (.int .u32 (n32 h)) := hrow.word (i := 7) (by simp [S8.list])
      have hf0 : wr.frozen? ⟨gv, 0, none⟩ = false := hrow.free 0
      have hf1 : wr.frozen? ⟨gv, 1, none⟩ = false := hrow.free 1
      have hf2 : wr.frozen? ⟨gv, 2, none⟩ = false := hrow.free 2
      have hf3 : wr.frozen? ⟨gv, 3, none⟩ = false := hrow.free 3
      have hf4 : wr.frozen? ⟨gv, 4, none⟩ = false := hrow.free 4
      have hf5 : wr.frozen? ⟨gv, 5, none⟩ = false := hrow.free 5
      have hf6 : wr.frozen? ⟨gv, 6, none⟩ = false := hrow.free 6
      have hf7 : wr.frozen? ⟨gv, 7, none⟩ = false := hrow.free 7
      have e0 := (n32_bd e).1
      have e1 := (n32_bd e).2
      have q0 : (0 : Int) ≤ t := by omega
      have q1 : (t : Int) < 64 := by omega
      have HR := Lib.hid hrow
      have HBL := Lib.hid hbel
      have HN := Lib.hid hnext
      clear hrow hbel hnext hrr hkk hxx
      go_wp2_with fail
      go_quiet ((go_at_call 50; exact Calls.quiet_of_same (right_int _ _ (by decide) _)))
      go_wp2_with fail
      go_quiet ((go_at_call 50; exact quiet_behind (right_int _ _ (by decide) _)))
      go_wp2_with fail
      go_roundw
      case rel =>
        refine ⟨t + 1, by omega, by go_num, ?_⟩
        rw [HN.out, round_list]
        exact store_eight (HR.out.drewN _) (below_drewN HBL.out _) _ _ _ _ _ _ _ _ _ rfl
      case measure => simp [intOf]; omega
    · have ht' : t = 64 := by omega
      have e64 : ((t : Nat) : Int) = 64 := by omega
      rw [e64]
      rw [ht'] at hrow
      have HR := Lib.hid hrow
      have HB := Lib.hid hbel
      clear hrow hbel ht' e64 hlt ht
      go_wp2_with fail
      exact HEX.out _ _ _ _ _ _ _ _ _ _ _ _ _ _ _ _ _ _ _ _ _ _ _ _ _ _ _ _ _ _ _ _ _ _ _ _ _ _ _ _ _ _ _ _ _ _ _ _ _ _ _ _ _ _ _ _ _ _ _ _ _ _ _ _ _ _ _ _ _ _ _ _ _ _ _ _ _ _ _ _ _ _ _ _ _ _ _ _ _ _ _ _ _ wr HR.out HB.out
end Go.Proofs.YtgejndannlfhkaaDoor
