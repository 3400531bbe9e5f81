/- The inner loops of longwireref02.Sha256. No condition but sizes. -/
import Derived.Test.YtgejndannlfhkaaDoorRefA
import Derived.Test.YtgejndannlfhkaaDoorRefP
import Derived.Test.YtgejndannlfhkaaDoorSha256
import Derived.Test.YtgejndannlfhkaaDoorVals
import Derived.Test.YtgejndannlfhkaaDoorFlowK
import Derived.Test.YtgejndannlfhkaaDoorCut
import Derived.BigQuiet
import Derived.Deep.QuietTactic
namespace Go.Proofs.YtgejndannlfhkaaDoor
open Go Go.RowKit Go.Shelf
attribute [local go_sem] n32_add n32_xor n32_and n32_or n32_flip n32_flipw n32_mod n32_addm

theorem oneCell_u32 : OneCell Tryd.prog 93 62 (.int .u32 0) 4 := ⟨Tryd.underlying93, by kernel_rfl, rfl⟩
def w32s (l : List W32) : List Value := l.map fun x => Value.int .u32 (n32 x)

set_option maxRecDepth 100000 in
set_option maxHeartbeats 40000000 in
theorem ref_loop6 {Q0 : Exit → Act → World → Prop} {s0 s1 s2 s4 s5 s6 s7 s8 s9 s10 s14 s15 s16 s17 s18 s19 s20 s21 s22 s23 s24 s25 s26 s27 s28 s29 s30 s31 s32 s33 s34 s35 s36 s37 s38 s39 s40 s41 s42 s43 s44 s45 s46 s47 s48 s49 s50 s51 s52 s53 s54 s55 s56 s57 s58 s59 s60 s61 s62 s63 s64 s65 s66 s67 s68 s69 s70 s71 s72 s73 s74 s75 s76 s77 s78 s79 s80 s81 s82 s83 s84 s85 s86 s87 s88 s89 s90 s91 s92 s93 s94 s95 s96 s97 s98 s99 s100 s101 s102 s103 s104 s105 s106 s107 s108 s109 s110 s111 s112 s113 s114 s115 s116 s117 s118 s119 s120 s121 s122 s123 s124 s125 s126 s127 s128 s129 s130 s131 s132 s133 s134 s135 s136 s137 s138 s139 s140 s141 s142 s143 s144 s145 s146 s147 s148 s149 s150 s151 s152 s153 s154 s155 s156 s157 s158 s159 s160 s161 s162 s163 s164 s165 s166 s167 s168 s169 s170 s171 s172 s173 s174 s175 s176 s177 s178 s179 s180 s181 s182 s183 s184 s185 s186 s187 s188 s189 s190 s191 s192 s193 s194 s195 s196 s197 s198 s199 s200 s201 s202 s203 s204 s205 s206 s207 s208 s209 s210 s211 s212 s213 s214 s215 s216 s217 s218 s219 s220 s221 s222 s223 s224 s225 s226 s227 s228 s229 s230 s231 s232 s233 s234 s235 s236 s237 s238 s239 s240 s241 s242 s243 s244 s245 s246 s247 s248 s249 s250 s251 s252 s253 s254 s255 s256 s257 s258 s259 s260 s261 s262 s263 s264 s265 s266 s267 s268 s269 s270 s271 s272 s273 s274 s275 s276 s277 s278 s279 s280 s281 s282 s283 s284 s285 s286 s287 s288 s289 s290 s291 s292 s293 s294 s295 s296 s297 s298 s299 s300 s301 s302 s303 s304 s305 s306 s307 s308 s309 s310 s311 s312 s313 s314 s315 s316 s317 : Value} (bs : List UInt8) (j ln c5 ga oa : Nat) (wb : World) (hac : ∀ i, i < 64 → wb.cell? ⟨ga, oa + (64 * j + i), none⟩ = some (.int .u8 (n8 (bs.getD i 0)))) (hga : ga < wb.heap.size) (t1 : 64 * (j : Int) + 64 ≤ ln) (t2 : (ln : Int) ≤ 70368744177728) (hpan : ∀ c a d v w, Q0 (.panic c) (Act.put a d v) w → Q0 (.panic c) a w)
    (hexit : ∀ (u14 u15 u16 u81 u82 u83 u84 u85 u86 u87 u88 u89 u90 u91 u92 u93 u94 u95 u96 u97 u98 u99 u100 u101 u102 u103 u104 u105 u106 u107 u108 u109 u110 u111 u112 u113 u114 u115 u116 u117 u118 u119 u120 u121 u122 u123 u124 u125 u126 u127 u128 u129 u130 u131 u132 u133 u134 u135 u136 u137 u138 u139 u140 u141 u142 u143 u144 u145 u146 u147 u148 u149 u150 u151 u152 u153 u154 u155 u156 u157 u158 u159 u160 u161 u162 u163 u164 : Value) (wr : World) (gw cw : Nat), (∀ i, i < 64 → wr.cell? ⟨gw, i, none⟩ = some (.int .u32 (n32 ((schedTo bs 64).getD i 0)))) → gw < wr.heap.size → Below wb.heap.size wb wr → Q0 (.exit 10) ⟨#[s0, s1, s2, .slice (some ⟨ga, oa, none⟩) ln c5, s4, s5, s6, s7, s8, s9, s10, .int .i64 (64 * (j : Int)), .slice (some ⟨gw, 0, none⟩) 64 cw, .int .i64 64, u14, u15, u16, s17, s18, s19, s20, s21, s22, s23, s24, s25, s26, s27, s28, s29, s30, s31, s32, s33, s34, s35, s36, s37, s38, s39, s40, s41, s42, s43, s44, s45, s46, s47, s48, s49, s50, s51, s52, s53, s54, s55, s56, s57, s58, s59, s60, s61, s62, s63, s64, s65, s66, s67, s68, s69, s70, s71, s72, s73, s74, s75, s76, s77, s78, s79, s80, u81, u82, u83, u84, u85, u86, u87, u88, u89, u90, u91, u92, u93, u94, u95, u96, u97, u98, u99, u100, u101, u102, u103, u104, u105, u106, u107, u108, u109, u110, u111, u112, u113, u114, u115, u116, u117, u118, u119, u120, u121, u122, u123, u124, u125, u126, u127, u128, u129, u130, u131, u132, u133, u134, u135, u136, u137, u138, u139, u140, u141, u142, u143, u144, u145, u146, u147, u148, u149, u150, u151, u152, u153, u154, u155, u156, u157, u158, u159, u160, u161, u162, u163, u164, s165, s166, s167, s168, s169, s170, s171, s172, s173, s174, s175, s176, s177, s178, s179, s180, s181, s182, s183, s184, s185, s186, s187, s188, s189, s190, s191, s192, s193, s194, s195, s196, s197, s198, s199, s200, s201, s202, s203, s204, s205, s206, s207, s208, s209, s210, s211, s212, s213, s214, s215, s216, s217, s218, s219, s220, s221, s222, s223, s224, s225, s226, s227, s228, s229, s230, s231, s232, s233, s234, s235, s236, s237, s238, s239, s240, s241, s242, s243, s244, s245, s246, s247, s248, s249, s250, s251, s252, s253, s254, s255, s256, s257, s258, s259, s260, s261, s262, s263, s264, s265, s266, s267, s268, s269, s270, s271, s272, s273, s274, s275, s276, s277, s278, s279, s280, s281, s282, s283, s284, s285, s286, s287, s288, s289, s290, s291, s292, s293, s294, s295, s296, s297, s298, s299, s300, s301, s302, s303, s304, s305, s306, s307, s308, s309, s310, s311, s312, s313, s314, s315, s316, s317], []⟩ wr) :
    Code.wp Tryd.prog (loopNo Tryd.f13 5) Q0 ⟨#[s0, s1, s2, .slice (some ⟨ga, oa, none⟩) ln c5, s4, s5, s6, s7, s8, s9, s10, .int .i64 (64 * (j : Int)), .slice none 0 0, .int .i64 0, s14, s15, s16, s17, s18, s19, s20, s21, s22, s23, s24, s25, s26, s27, s28, s29, s30, s31, s32, s33, s34, s35, s36, s37, s38, s39, s40, s41, s42, s43, s44, s45, s46, s47, s48, s49, s50, s51, s52, s53, s54, s55, s56, s57, s58, s59, s60, s61, s62, s63, s64, s65, s66, s67, s68, s69, s70, s71, s72, s73, s74, s75, s76, s77, s78, s79, s80, s81, s82, s83, s84, s85, s86, s87, s88, s89, s90, s91, s92, s93, s94, s95, s96, s97, s98, s99, s100, s101, s102, s103, s104, s105, s106, s107, s108, s109, s110, s111, s112, s113, s114, s115, s116, s117, s118, s119, s120, s121, s122, s123, s124, s125, s126, s127, s128, s129, s130, s131, s132, s133, s134, s135, s136, s137, s138, s139, s140, s141, s142, s143, s144, s145, s146, s147, s148, s149, s150, s151, s152, s153, s154, s155, s156, s157, s158, s159, s160, s161, s162, s163, s164, s165, s166, s167, s168, s169, s170, s171, s172, s173, s174, s175, s176, s177, s178, s179, s180, s181, s182, s183, s184, s185, s186, s187, s188, s189, s190, s191, s192, s193, s194, s195, s196, s197, s198, s199, s200, s201, s202, s203, s204, s205, s206, s207, s208, s209, s210, s211, s212, s213, s214, s215, s216, s217, s218, s219, s220, s221, s222, s223, s224, s225, s226, s227, s228, s229, s230, s231, s232, s233, s234, s235, s236, s237, s238, s239, s240, s241, s242, s243, s244, s245, s246, s247, s248, s249, s250, s251, s252, s253, s254, s255, s256, s257, s258, s259, s260, s261, s262, s263, s264, s265, s266, s267, s268, s269, s270, s271, s272, s273, s274, s275, s276, s277, s278, s279, s280, s281, s282, s283, s284, s285, s286, s287, s288, s289, s290, s291, s292, s293, s294, s295, s296, s297, s298, s299, s300, s301, s302, s303, s304, s305, s306, s307, s308, s309, s310, s311, s312, s313, s314, s315, s316, s317], []⟩ wb := by
  have HEX := Lib.hid hexit
  have HPAN := Lib.hid hpan
  have HAC := Lib.hid hac
  clear hexit hac hpan
  conv => arg 2; whnf
  dsimp only
  go_loopw [12, 13] (fun v i wy => ∃ (t : Nat) (Aw : Option Addr) (cw : Nat), t ≤ 64 ∧ i = .int .i64 t ∧ v = .slice Aw t cw ∧ OwnV wy wb.heap.size 62 (.slice Aw t cw) (w32s (firstW bs t)) ∧ Below wb.heap.size wb wy) (fun _ i _ => 64 - (intOf i).toNat)
  case atStart => exact ⟨0, none, 0, by omega, rfl, rfl, OwnV.none _ _ _, Below.refl _ _⟩
  case round =>
    obtain ⟨t, Aw, cw, ht, rfl, rfl, hown, hbel⟩ := hrel
    have HOW := Lib.hid hown
    have HBW := Lib.hid hbel
    have hzw := hbel.size
    have hwl : (w32s (firstW bs t)).length = t := by rw [w32s, List.length_map]; exact firstW_length _ _ ht
    have HWL := Lib.hid hwl
    by_cases ht64 : t < 64
    · by_cases h16 : t < 16
      · obtain ⟨p, hp⟩ : ∃ p : Nat, p = 64 * j + 4 * t := ⟨_, rfl⟩
        have hpe : (64 * (j : Int) + 4 * (t : Int)) = (p : Int) := by omega
        have hp2 : (p : Int) + 3 < ln := by omega
        obtain ⟨b0, hb0⟩ : ∃ b0, b0 = bs.getD (4 * t) 0 := ⟨_, rfl⟩
        obtain ⟨b1, hb1⟩ : ∃ b1, b1 = bs.getD (4 * t + 1) 0 := ⟨_, rfl⟩
        obtain ⟨b2, hb2⟩ : ∃ b2, b2 = bs.getD (4 * t + 2) 0 := ⟨_, rfl⟩
        obtain ⟨b3, hb3⟩ : ∃ b3, b3 = bs.getD (4 * t + 3) 0 := ⟨_, rfl⟩
        have hby : ∀ i, i < 4 → wr.cell? ⟨ga, oa + (p + i), none⟩ = some (.int .u8 (n8 (bs.getD (4 * t + i) 0))) := fun i hi => by
          rw [show p + i = 64 * j + (4 * t + i) by omega]
          exact (hbel.cell (p := ⟨ga, oa + (64 * j + (4 * t + i)), none⟩) hga).trans (HAC.out _ (by omega))
        have c0 : wr.cell? ⟨ga, oa + p, none⟩ = some (.int .u8 (n8 b0)) := by rw [hb0]; exact hby 0 (by decide)
        have c1 : wr.cell? ⟨ga, oa + (p + 1), none⟩ = some (.int .u8 (n8 b1)) := by rw [hb1]; exact hby 1 (by decide)
        have c2' : wr.cell? ⟨ga, oa + (p + 2), none⟩ = some (.int .u8 (n8 b2)) := by rw [hb2]; exact hby 2 (by decide)
        have c3' : wr.cell? ⟨ga, oa + (p + 3), none⟩ = some (.int .u8 (n8 b3)) := by rw [hb3]; exact hby 3 (by decide)
        have hsum := word_sum bs t
        rw [← hb0, ← hb1, ← hb2, ← hb3] at hsum
        have hnext := firstW_succ bs t ht64 (word bs t) (by rw [if_pos h16])
        obtain ⟨x, hx⟩ : ∃ x, x = word bs t := ⟨_, rfl⟩
        rw [← hx] at hsum hnext
        have HSUM := Lib.hid hsum
        have HN := Lib.hid hnext
        have HPE := Lib.hid hpe
        have b00 := (n8_bd b0).1
        have b01 := (n8_bd b0).2
        have b10 := (n8_bd b1).1
        have b11 := (n8_bd b1).2
        have b20 := (n8_bd b2).1
        have b21 := (n8_bd b2).2
        have b30 := (n8_bd b3).1
        have b31 := (n8_bd b3).2
        have q0 : (0 : Int) ≤ p := by omega
        clear hown hbel hwl hby hsum hnext hx hb0 hb1 hb2 hb3 hpe
        go_wp2_with fail
        rw [HPE.out]
        clear hp
        refine wp_region_any (by kernel_rfl) ?_
        change wpAny _ _ _ _ _ _ _ (World.drew _)
        refine wpAny_take_now 0 (some 91) (.slice Aw t cw) rfl rfl (by kernel_rfl) (fun _ _ _ h => HPAN.out _ _ _ _ _ h) rfl (fun w => rfl) ?_
        refine wpAny_quiet_tail (C := fun w' => ∃ m, w' = wr.drewN m) 1 30 (by kernel_rfl) rfl rfl ⟨1, rfl⟩ ?_
        simp only [List.take_succ_cons, List.take_zero, List.drop_succ_cons, List.drop_zero]
        go_simp
        repeat (go_big_quiet_step (fail))
        refine wpQuiet_nil ?_
        intro nq4
        have hv : ∀ W : World, Hid (ValsIn (W.alloc (.cells #[.int .u32 (n32 x)] 62)) (W.alloc (.cells #[.int .u32 (n32 x)] 62)).heap.size (some ⟨W.heap.size, 0, none⟩) 1 [.int .u32 (n32 x)]) := fun W => ValsIn.of_row (xs := [.int .u32 (n32 x)]) (Row.new W _ _) (Row.new W 62 _).lt
        go_wp2_with ((with_reducible show wpList _ _ _ (⟨some 122, _, _, _, _, _⟩ :: _) _ _); rw [HSUM.out]; refine wpList_append_vals (v := .slice Aw t cw) oneCell_u32 rfl (.tmp 91) (.tmp 121) rfl rfl (OwnV.alloc (w := wr.drewN nq4) HOW.out _) rfl (hv _).out (by intro u hu; rw [List.mem_singleton] at hu; rw [hu]; rfl) (by have := HWL.out; omega) (by have := HWL.out; omega) (by simp; omega) ?_; rw [HWL.out]; intro A5 c5' w5 hown5 hgrow5 hblk5)
        go_roundw
        case rel =>
          refine ⟨t + 1, A5, c5', by omega, by go_num, rfl, ?_, ?_⟩
          · rw [HN.out, w32s, List.map_append]; exact hown5.out
          · exact ((below_drewN HBW.out nq4).alloc (by simp; omega) _).grown hgrow5.out (by simp; omega) (fun q e => (HOW.out.lt q e).1)
        case measure => simp [intOf]; omega
      · have e16 : t - 16 + 16 = t := by omega
        obtain ⟨gw, hgw, hgwb⟩ : ∃ gw, Aw = some ⟨gw, 0, none⟩ ∧ ∀ i, i < t → wr.cell? ⟨gw, i, none⟩ = some (.int .u32 (n32 ((schedTo bs t).getD i 0))) := by
          obtain ⟨g, o, e, hg, hcell⟩ := (OwnV.vals hown).2 (by omega)
          have ho : o = 0 := by
            rcases hown.2 with ⟨e', _⟩ | ⟨g', cap, cur, e', _⟩
            · injection e' with e1 e2; omega
            · injection e' with e1; rw [e] at e1; injection e1 with e1; injection e1
          subst ho
          refine ⟨g, e, fun i hi => ?_⟩
          have := hcell i (.int .u32 (n32 ((firstW bs t).getD i 0))) (by rw [w32s, List.getElem?_map, List.getElem?_eq_getElem (by rw [firstW_length _ _ ht]; exact hi)]; simp [List.getD, firstW_length _ _ ht, hi])
          rw [Nat.zero_add, firstW_get _ _ _ hi] at this
          exact this
        subst hgw
        have hw16 := hgwb (t - 16) (by omega)
        have hw7 := hgwb (t - 7) (by omega)
        have hw15 := hgwb (t - 15) (by omega)
        have hw2 := hgwb (t - 2) (by omega)
        have hnext := firstW_succ bs t ht64 (nextW (schedTo bs t) t) (by rw [if_neg h16])
        have hval : nextW (schedTo bs t) t = (schedTo bs t).getD (t - 16) 0 + (schedTo bs t).getD (t - 7) 0 + slideW ((schedTo bs t).getD (t - 15) 0) 7 18 3 + slideW ((schedTo bs t).getD (t - 2) 0) 17 19 10 := rfl
        obtain ⟨x, hx⟩ : ∃ x, x = nextW (schedTo bs t) t := ⟨_, rfl⟩
        rw [← hx] at hnext hval
        unfold slideW at hval
        have HN := Lib.hid hnext
        clear hown hbel hwl hgwb hnext e16 hx
        generalize hg16 : (schedTo bs t).getD (t - 16) 0 = x16 at *
        generalize hg7 : (schedTo bs t).getD (t - 7) 0 = x7 at *
        generalize hg15 : (schedTo bs t).getD (t - 15) 0 = x15 at *
        generalize hg2 : (schedTo bs t).getD (t - 2) 0 = x2 at *
        have HVAL := Lib.hid hval
        clear hg16 hg7 hg15 hg2 hval
        go_wp2_with fail
        refine wp_region_any (by kernel_rfl) ?_
        change wpAny _ _ _ _ _ _ _ (World.drew _)
        refine wpAny_take_now 0 (some 133) (.slice (some ⟨gw, 0, none⟩) t cw) rfl rfl (by kernel_rfl) (fun _ _ _ h => HPAN.out _ _ _ _ _ h) rfl (fun w => rfl) ?_
        refine wpAny_quiet_tail (C := fun w' => ∃ m, w' = wr.drewN m) 1 30 (by kernel_rfl) rfl rfl ⟨1, rfl⟩ ?_
        simp only [List.take_succ_cons, List.take_zero, List.drop_succ_cons, List.drop_zero]
        go_simp
        repeat (go_big_quiet_step (first | (go_at_call 50; exact Calls.quiet_of_same (right_int _ _ (by decide) _)) | (go_at_call 51; exact Calls.quiet_of_same (shift_int _ _ (by decide) _))))
        refine wpQuiet_nil ?_
        intro nq4
        have hv : ∀ W : World, Hid (ValsIn (W.alloc (.cells #[.int .u32 (n32 x)] 62)) (W.alloc (.cells #[.int .u32 (n32 x)] 62)).heap.size (some ⟨W.heap.size, 0, none⟩) 1 [.int .u32 (n32 x)]) := fun W => ValsIn.of_row (xs := [.int .u32 (n32 x)]) (Row.new W _ _) (Row.new W 62 _).lt
        go_wp2_with ((with_reducible show wpList _ _ _ (⟨some 164, _, _, _, _, _⟩ :: _) _ _); go_loud (rw [← HVAL.out]); refine wpList_append_vals (v := .slice (some ⟨gw, 0, none⟩) t cw) oneCell_u32 rfl (.tmp 133) (.tmp 163) rfl rfl (OwnV.alloc (w := wr.drewN nq4) HOW.out _) rfl (hv _).out (by intro u hu; rw [List.mem_singleton] at hu; rw [hu]; rfl) (by have := HWL.out; omega) (by have := HWL.out; omega) (by simp; omega) ?_; rw [HWL.out]; intro A5 c5' w5 hown5 hgrow5 hblk5)
        go_roundw
        case rel =>
          refine ⟨t + 1, A5, c5', by omega, by go_num, rfl, ?_, ?_⟩
          · rw [HN.out, w32s, List.map_append]; exact hown5.out
          · exact ((below_drewN HBW.out nq4).alloc (by simp; omega) _).grown hgrow5.out (by simp; omega) (fun q e => (HOW.out.lt q e).1)
        case measure => simp [intOf]; omega
    · have ht' : t = 64 := by omega
      have e64 : ((t : Nat) : Int) = 64 := by omega
      obtain ⟨gw, hgw, hgwb⟩ : ∃ gw, Aw = some ⟨gw, 0, none⟩ ∧ ∀ i, i < t → wr.cell? ⟨gw, i, none⟩ = some (.int .u32 (n32 ((schedTo bs t).getD i 0))) := by
        obtain ⟨g, o, e, hg, hcell⟩ := (OwnV.vals hown).2 (by omega)
        have ho : o = 0 := by
          rcases hown.2 with ⟨e', _⟩ | ⟨g', cap, cur, e', _⟩
          · injection e' with e1 e2; omega
          · injection e' with e1; rw [e] at e1; injection e1 with e1; injection e1
        subst ho
        refine ⟨g, e, fun i hi => ?_⟩
        have := hcell i (.int .u32 (n32 ((firstW bs t).getD i 0))) (by rw [w32s, List.getElem?_map, List.getElem?_eq_getElem (by rw [firstW_length _ _ ht]; exact hi)]; simp [List.getD, firstW_length _ _ ht, hi])
        rw [Nat.zero_add, firstW_get _ _ _ hi] at this
        exact this
      subst hgw
      have hgwlt : gw < wr.heap.size := (hown.lt gw rfl).2
      rw [ht'] at hgwb
      have HGB := Lib.hid hgwb
      rw [e64, ht']
      clear hown hbel hwl hgwb HOW HWL ht64 ht' e64 ht
      go_wp2_with fail
      exact HEX.out _ _ _ _ _ _ _ _ _ _ _ _ _ _ _ _ _ _ _ _ _ _ _ _ _ _ _ _ _ _ _ _ _ _ _ _ _ _ _ _ _ _ _ _ _ _ _ _ _ _ _ _ _ _ _ _ _ _ _ _ _ _ _ _ _ _ _ _ _ _ _ _ _ _ _ _ _ _ _ _ _ _ _ _ _ _ _ wr gw cw HGB.out hgwlt HBW.out
end Go.Proofs.YtgejndannlfhkaaDoor
