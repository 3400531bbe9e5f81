/- The walk of longwirelaw03.wakes: true. No condition. -/
import Derived.Test.YtgejndannlfhkaaDoorSeal
import Derived.Test.YtgejndannlfhkaaDoorTells
import Derived.Test.YtgejndannlfhkaaDoorRelC
import Derived.Test.YtgejndannlfhkaaDoorKeysLaw
import Derived.Stop.BytesEq
namespace Go.Proofs.YtgejndannlfhkaaDoor
open Go Go.RowKit Go.Shelf

def hello : ByteArray := { data := #[104, 101, 108, 108, 111] }
def wakeKey : List UInt8 := [136, 53, 124, 184, 32, 248, 132, 195, 130, 224, 126, 149, 214, 156, 43, 34, 232, 197, 60, 110, 153, 58, 239, 137, 131, 9, 39, 206, 241, 141, 131, 118]
set_option maxRecDepth 100000 in
theorem hmac_wake : hmac [107, 101, 121] [0, 5, 104, 101, 108, 108, 111] = wakeKey := by decide +kernel
theorem laid_hello : laidB hello [] = [0, 5, 104, 101, 108, 108, 111] := by decide +kernel
theorem wakeKey_length : wakeKey.length = 32 := by decide
theorem equal_key (a b : List UInt8) (ha : a.length = 32) (hb : b.length = 32) (w : World) : (Op.equalIn 10000 43 (.agg (u8s a).toArray) (.agg (u8s b).toArray)).run Tryd.prog w = .ok (a == b) w :=
  run_equalIn_bytes (P := Tryd.prog) w 9998 43 5 32 Tryd.underlying43 Tryd.underlying5 (fun w => by kernel_rfl) a b ha hb
theorem eql_key (a b : List UInt8) (ha : a.length = 32) (hb : b.length = 32) (w : World) : (binOp .eql 43 (.agg (u8s a).toArray) (.agg (u8s b).toArray)).run Tryd.prog w = .ok (.bool (a == b)) w := by
  rw [run_eql_struct, equal_key a b ha hb w]; rfl
theorem neq_key (a b : List UInt8) (ha : a.length = 32) (hb : b.length = 32) (w : World) : (binOp .neq 43 (.agg (u8s a).toArray) (.agg (u8s b).toArray)).run Tryd.prog w = .ok (.bool (!(a == b))) w := by
  rw [run_neq_struct, equal_key a b ha hb w]; rfl

/-- A slice of one slice of bytes, marked or not. -/
theorem parts_marked {W : World} {g q n c : Nat} {l : List UInt8} {T : TypeId} (h : RowM W g T #[.slice (some ⟨q, 0, none⟩) n c]) (hq : RowM W q 5 (u8s l).toArray) (hl : l.length = n) (hn : n ≤ c) (hc : c ≤ maxLen) : PartsIn W W.heap.size (some ⟨g, 0, none⟩) 1 [l] :=
  ⟨rfl, fun _ => ⟨g, 0, rfl, h.lt, fun i hi => by
    obtain rfl : i = 0 := by omega
    exact ⟨some ⟨q, 0, none⟩, n, c, h.cell 0, hn, hc, hq.bytes hl⟩⟩⟩

set_option maxRecDepth 100000 in
set_option maxHeartbeats 2000000 in
theorem wakes_any (w : World) (hk : Consts w) (hst : Starts w) :
    Calls Tryd.prog 27 #[] w fun e w' => e = .returned (.bool true) ∧ Below w.heap.size w w' := by
  have cv := @convert_const
  have hb3 : BytesIn (w.alloc (.cells #[.int .u8 107, .int .u8 101, .int .u8 121] 5 (3, 4))) (w.alloc (.cells #[.int .u8 107, .int .u8 101, .int .u8 121] 5 (3, 4))).heap.size (some ⟨w.heap.size, 0, none⟩) 3 [107, 101, 121] :=
    bytesIn_cells (l := [107, 101, 121]) (T := 5) (fr := (3, 4)) (Go.heap_alloc_new w _) (by simp)
  have hd := derive_ok [107, 101, 121] (some ⟨w.heap.size, 0, none⟩) 3 3 hello [] none 0 0 _ hb3 (by decide) (by decide) (by decide) (by decide) (by decide) ⟨rfl, fun h => absurd h (by omega)⟩ (by rw [laid_hello]; decide) (by decide) (hk.alloc _) (hst.alloc _)
  rw [laid_hello, hmac_wake] at hd
  have HD := Lib.hid hd
  have HC := Lib.hid hk
  have HS := Lib.hid hst
  clear hb3 hd hk hst
  go_enter Tryd.func27, Tryd.ntmps27
  go_wp2_with fail
  refine HD.out.mono ?_
  rintro e w1 ⟨rfl, hb1⟩
  have hb1w : Below w.heap.size w w1 := ((Below.refl _ w).alloc (Nat.le_refl _) _).trans (hb1.mono (by simp))
  have HB1 := Lib.hid hb1w
  have HI : Hid ((Tryd.prog.info? 43).map (·.size) = some (u8s wakeKey).toArray.size) := info_key wakeKey wakeKey_length
  have HZ : Hid ((u8s (zeros 32)).toArray.size = (u8s wakeKey).toArray.size) := zeros32_size wakeKey wakeKey_length
  obtain ⟨V, hV⟩ : ∃ V : World, V = w1.alloc (.cells (u8s wakeKey).toArray 43) := ⟨_, rfl⟩
  obtain ⟨g1, hg1⟩ : ∃ g1, g1 = w1.heap.size := ⟨_, rfl⟩
  have HRV : Hid (Row V g1 43 (u8s wakeKey).toArray) := show Row _ _ _ _ by rw [hV, hg1]; exact Row.new w1 _ _
  have HBV : Hid (Below w.heap.size w V) := show Below _ _ _ by rw [hV]; exact hb1w.alloc hb1w.size _
  have HCV : Hid (Consts V) := HC.out.below HBV.out
  have HSV : Hid (Starts V) := HS.out.below HBV.out
  have HVV := Lib.hid hV
  have HGG := Lib.hid hg1
  clear hb1 hb1w hV hg1
  go_wp2_with ((with_reducible show wpList _ _ _ (⟨none, .store _ _ _, _, _, _, _⟩ :: _) _ _); go_loud (refine wpList_store_new rfl 43 _ _ rfl 43 _ (u8s wakeKey).toArray rfl rfl HI.out HZ.out (u8s_all _) ?_))
  rw [← HVV.out, ← HGG.out]
  have hmc : ∀ (W : World) (g10 g13 q13 : Nat), GrowsC V.heap.size V W → RowM W g10 5 (u8s [107, 101, 121]).toArray → RowM W g13 22 #[.slice (some ⟨q13, 0, none⟩) 7 7] → RowM W q13 5 (u8s [0, 5, 104, 101, 108, 108, 111]).toArray →
      Calls Tryd.prog 14 #[.slice (some ⟨g10, 0, none⟩) 3 3, .slice (some ⟨g13, 0, none⟩) 1 1] W fun e w' => e = .returned (.agg (u8s wakeKey).toArray) ∧ GrowsC V.heap.size W w' := by
    intro W g10 g13 q13 hG h10 h13 hq
    have := hmac_any [107, 101, 121] [[0, 5, 104, 101, 108, 108, 111]] (some ⟨g10, 0, none⟩) 3 3 (some ⟨g13, 0, none⟩) 1 1 W (h10.bytes rfl) (by decide) (by decide) (by decide) (by decide) (parts_marked h13 hq rfl (by decide) (by decide)) (by decide) (HCV.out.below hG.below) (HSV.out.below hG.below)
    rw [show [[0, 5, 104, 101, 108, 108, (111 : UInt8)]].flatten = [0, 5, 104, 101, 108, 108, 111] from rfl, hmac_wake] at this
    exact this.mono fun e w' ⟨he, hb⟩ => ⟨he, GrowsC.of hb hG.below.size⟩
  have HHM := Lib.hid hmc
  have HEQ : Hid (∀ w, (binOp .eql 43 (.agg (u8s wakeKey).toArray) (.agg (u8s wakeKey).toArray)).run Tryd.prog w = .ok (.bool true) w) := fun w => by
    have := eql_key wakeKey wakeKey wakeKey_length wakeKey_length w
    rwa [show (wakeKey == wakeKey) = true by decide] at this
  have HNE : Hid (∀ w, (binOp .neq 43 (.agg (u8s wakeKey).toArray) (.agg (u8s (zeros 32)).toArray)).run Tryd.prog w = .ok (.bool true) w) := fun w => by
    have := neq_key wakeKey (zeros 32) wakeKey_length (by simp [zeros]) w
    rwa [show (!(wakeKey == zeros 32)) = true by decide] at this
  clear hmc cv
  refine wp_region_relE V.heap.size [(0, some 9), (1, some 10), (2, some 11), (3, some 12), (4, some 13), (5, some 14), (6, some 15), (7, some 16), (8, some 17), (9, some 18), (10, some 19), (11, some 20), (12, some 21), (13, some 22), (14, some 23), (15, some 24), (16, some 25), (17, some 0)] (by kernel_rfl) (by kernel_rfl) rfl ?_
  refine relE_const (GrowsC.refl _) rfl (.int .i64 0) rfl (fun vs W hC hn => ?_) ?_
  · skip
    refine ⟨rfl, ?_⟩
    simp only [putAll]
    go_simp
  refine relE_const (GrowsC.refl _) rfl (.bool true) rfl (fun vs W hC hn => ?_) ?_
  · skip
    have e0 := hn.1 rfl
    refine ⟨rfl, ?_⟩
    simp only [putAll, e0]
    go_simp
  refine relE_const (GrowsC.refl _) rfl (.bool true) rfl (fun vs W hC hn => ?_) ?_
  · skip
    have e1 := hn.1 rfl
    refine ⟨rfl, ?_⟩
    simp only [putAll, e1]
    go_simp
  refine relE_const (GrowsC.refl _) rfl (.agg (u8s wakeKey).toArray) rfl (fun vs W hC hn => ?_) ?_
  · skip
    have e2 := hn.1 rfl
    refine ⟨(by simp only [putAll, e2]; go_simp), ?_⟩
    simp only [putAll, e2]
    refine run_load_whole (HRV.out.below hC.below HRV.out.lt) Tryd.underlying43 rfl HI.out rfl ?_
    go_simp
  refine relE_const (GrowsC.refl _) rfl (.agg (u8s (zeros 32)).toArray) rfl (fun vs W hC hn => ?_) ?_
  · skip
    have e2 := hn.2.1 rfl
    refine ⟨(by simp only [putAll, e2]; go_simp), ?_⟩
    simp only [putAll, e2]
    go_simp
    rfl
  refine relE_const (GrowsC.refl _) rfl (.bool true) rfl (fun vs W hC hn => ?_) ?_
  · skip
    have e2 := hn.2.2.1 rfl
    have e3 := hn.2.1 rfl
    have e4 := hn.1 rfl
    refine ⟨(by simp only [putAll, e2, e3, e4]; go_simp), ?_⟩
    have hne := HNE.out
    simp only [putAll, e2, e3, e4]
    go_simp
  refine relE_const (GrowsC.refl _) rfl (.bool true) rfl (fun vs W hC hn => ?_) ?_
  · skip
    have e2 := hn.2.2.2.1 rfl
    have e5 := hn.1 rfl
    refine ⟨rfl, ?_⟩
    simp only [putAll, e2, e5]
    go_simp
  refine relE_const (GrowsC.refl _) rfl (.bool true) rfl (fun vs W hC hn => ?_) ?_
  · skip
    have e6 := hn.1 rfl
    refine ⟨rfl, ?_⟩
    simp only [putAll, e6]
    go_simp
  refine relE_const (GrowsC.refl _) rfl (.agg (u8s wakeKey).toArray) rfl (fun vs W hC hn => ?_) ?_
  · skip
    have e7 := hn.1 rfl
    refine ⟨(by simp only [putAll, e7]; go_simp), ?_⟩
    simp only [putAll, e7]
    refine run_load_whole (HRV.out.below hC.below HRV.out.lt) Tryd.underlying43 rfl HI.out rfl ?_
    go_simp
  refine relE_val rfl (fun v W => ∃ g, v = .slice (some ⟨g, 0, none⟩) 3 3 ∧ V.heap.size ≤ g ∧ RowM W g 5 (u8s [107, 101, 121]).toArray) (by rintro v W1 W2 ⟨g, e, hg, hr⟩ hG; exact ⟨g, e, hg, hr.grows hG⟩) rfl (fun vs W hC hn => ?_) ?_
  · skip
    have e7 := hn.2.1 rfl
    refine ⟨.slice (some ⟨W.heap.size, 0, none⟩) 3 3, W.alloc (.cells #[.int .u8 107, .int .u8 101, .int .u8 121] 5), (by simp only [putAll, e7]; go_simp), ?_, ⟨_, rfl, hC.below.size, RowM.new W _ _⟩, GrowsC.alloc _ _ hC.below.size⟩
    simp only [putAll, e7]
    go_simp
  refine relE_val rfl (fun v W => ∃ g, v = .slice (some ⟨g, 0, none⟩) 3 3 ∧ V.heap.size ≤ g ∧ RowM W g 5 (u8s [107, 101, 121]).toArray) (by rintro v W1 W2 ⟨g, e, hg, hr⟩ hG; exact ⟨g, e, hg, hr.grows hG⟩) rfl (fun vs W hC hn => ?_) ?_
  · skip
    have e7 := hn.2.2.1 rfl
    obtain ⟨g9, e9, hg9, hr9⟩ := hn.1 rfl
    have hmk := run_mark hr9 3 3
    refine ⟨.slice (some ⟨g9, 0, none⟩) 3 3, W.freeze ⟨g9, (u8s [107, 101, 121]).toArray.size, none⟩ 1, (by simp only [putAll, e7, e9]; go_simp), ?_, ⟨g9, rfl, hg9, hr9.grows (grows_mark hg9)⟩, grows_mark hg9⟩
    simp only [putAll, e7, e9]
    go_simp
  refine relE_val rfl (fun v W => ∃ g, v = .slice (some ⟨g, 0, none⟩) 7 7 ∧ V.heap.size ≤ g ∧ RowM W g 5 (u8s [0, 5, 104, 101, 108, 108, 111]).toArray) (by rintro v W1 W2 ⟨g, e, hg, hr⟩ hG; exact ⟨g, e, hg, hr.grows hG⟩) rfl (fun vs W hC hn => ?_) ?_
  · skip
    have e7 := hn.2.2.2.1 rfl
    refine ⟨.slice (some ⟨W.heap.size, 0, none⟩) 7 7, W.alloc (.cells #[.int .u8 0, .int .u8 5, .int .u8 104, .int .u8 101, .int .u8 108, .int .u8 108, .int .u8 111] 5), (by simp only [putAll, e7]; go_simp), ?_, ⟨_, rfl, hC.below.size, RowM.new W _ _⟩, GrowsC.alloc _ _ hC.below.size⟩
    simp only [putAll, e7]
    go_simp
  refine relE_val rfl (fun v W => ∃ g, v = .slice (some ⟨g, 0, none⟩) 7 7 ∧ V.heap.size ≤ g ∧ RowM W g 5 (u8s [0, 5, 104, 101, 108, 108, 111]).toArray) (by rintro v W1 W2 ⟨g, e, hg, hr⟩ hG; exact ⟨g, e, hg, hr.grows hG⟩) rfl (fun vs W hC hn => ?_) ?_
  · skip
    have e7 := hn.2.2.2.2.1 rfl
    obtain ⟨g11, e11, hg11, hr11⟩ := hn.1 rfl
    have hmk := run_mark hr11 7 7
    refine ⟨.slice (some ⟨g11, 0, none⟩) 7 7, W.freeze ⟨g11, (u8s [0, 5, 104, 101, 108, 108, 111]).toArray.size, none⟩ 1, (by simp only [putAll, e7, e11]; go_simp), ?_, ⟨g11, rfl, hg11, hr11.grows (grows_mark hg11)⟩, grows_mark hg11⟩
    simp only [putAll, e7, e11]
    go_simp
  refine relE_val rfl (fun v W => ∃ g q, v = .slice (some ⟨g, 0, none⟩) 1 1 ∧ RowM W g 22 #[.slice (some ⟨q, 0, none⟩) 7 7] ∧ RowM W q 5 (u8s [0, 5, 104, 101, 108, 108, 111]).toArray) (by rintro v W1 W2 ⟨g, q, e, hr, hq⟩ hG; exact ⟨g, q, e, hr.grows hG, hq.grows hG⟩) rfl (fun vs W hC hn => ?_) ?_
  · skip
    have e7 := hn.2.2.2.2.2.1 rfl
    obtain ⟨g12, e12, hg12, hr12⟩ := hn.1 rfl
    refine ⟨.slice (some ⟨W.heap.size, 0, none⟩) 1 1, W.alloc (.cells #[.slice (some ⟨g12, 0, none⟩) 7 7] 22), (by simp only [putAll, e7, e12]; go_simp), ?_, ⟨_, g12, rfl, RowM.new W _ _, hr12.grows (GrowsC.alloc W _ hC.below.size)⟩, GrowsC.alloc _ _ hC.below.size⟩
    simp only [putAll, e7, e12]
    go_simp
  refine relE_call_const rfl (.agg (u8s wakeKey).toArray) 14 rfl (fun vs W hC hn => ?_) ?_
  · skip
    have e7 := hn.2.2.2.2.2.2.1 rfl
    obtain ⟨g10, e10, hg10, hr10⟩ := hn.2.2.2.1 rfl
    obtain ⟨g13, q13, e13, hr13, hq13⟩ := hn.1 rfl
    refine ⟨#[.slice (some ⟨g10, 0, none⟩) 3 3, .slice (some ⟨g13, 0, none⟩) 1 1], (by simp only [putAll, e7, e10, e13]; go_simp), ?_, HHM.out W g10 g13 q13 hC hr10 hr13 hq13⟩
    simp only [putAll, e7, e10, e13]
    go_simp
  refine relE_const (GrowsC.refl _) rfl (.bool true) rfl (fun vs W hC hn => ?_) ?_
  · skip
    have e7 := hn.2.2.2.2.2.2.2.1 rfl
    have e8 := hn.2.2.2.2.2.2.1 rfl
    have e14 := hn.1 rfl
    refine ⟨(by simp only [putAll, e7, e8, e14]; go_simp), ?_⟩
    have heq := HEQ.out
    simp only [putAll, e7, e8, e14]
    go_simp
  refine relE_const (GrowsC.refl _) rfl (.bool true) rfl (fun vs W hC hn => ?_) ?_
  · skip
    have e7 := hn.2.2.2.2.2.2.2.2.1 rfl
    have e15 := hn.1 rfl
    refine ⟨rfl, ?_⟩
    simp only [putAll, e7, e15]
    go_simp
  refine relE_const (GrowsC.refl _) rfl (.bool true) rfl (fun vs W hC hn => ?_) ?_
  · skip
    have e16 := hn.1 rfl
    refine ⟨rfl, ?_⟩
    simp only [putAll, e16]
    go_simp
  refine relE_nil (fun vs W hC hk => ?_)
  have e17 := hk.1
  simp only [putAll, e17]
  go_wp2_with fail
  go_ret
  exact ⟨rfl, HBV.out.trans (hC.below.mono HBV.out.size)⟩
end Go.Proofs.YtgejndannlfhkaaDoor
