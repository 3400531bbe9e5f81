/- The walks of the ring's Way and of its function literals. No condition but sizes. -/
import Derived.Test.YtgejndannlfhkaaDoorRing
namespace Go.Proofs.YtgejndannlfhkaaDoor
open Go Go.RowKit Go.Shelf

/-- A row of bytes in a block from base on, of one part. -/
theorem hmf (fn : Fn) (first cap : Array Value) (w : World) : (Instr.makeFunc fn first cap).run Tryd.prog w = .ok (.func fn first cap) w := rfl

set_option maxRecDepth 100000 in
theorem way2_any (pre : List UInt8) (n : Nat) (z : Int) (hz : z = ((n % 4294967296 : Nat) : Int)) (base g q : Nat) (w : World) (hw : Writ w base g pre) (hq : w.cell? ⟨q, 0, none⟩ = some (.int .u32 z)) (hlen : pre.length + 4 ≤ 140737488355328) :
    Calls Tryd.prog 67 #[.pointer (some ⟨g, 0, none⟩), .pointer (some ⟨q, 0, none⟩)] w fun e w' => e = .returned (.tuple #[]) ∧ Writ w' base g (pre ++ be 4 n) ∧ Below base w w' := by
  have h := four_any pre n z hz base g w hw hlen
  have H := Lib.hid h
  clear h hw hz
  go_enter Tryd.func67, Tryd.ntmps67
  go_wp2_with fail
  refine H.out.mono ?_
  rintro e w1 ⟨rfl, hw1, hb1⟩
  have HW := Lib.hid hw1
  have HB := Lib.hid hb1
  clear hw1 hb1 H
  go_wp2_with fail
  go_end0
  exact ⟨rfl, HW.out, HB.out⟩
set_option maxRecDepth 100000 in
theorem part2_any (n : Nat) (z : Int) (hz : z = ((n % 4294967296 : Nat) : Int)) (q : Nat) (w : World) (hql : q < w.heap.size) (hq : w.cell? ⟨q, 0, none⟩ = some (.int .u32 z)) :
    Calls Tryd.prog 66 #[.func (.func 67) #[] #[.pointer (some ⟨q, 0, none⟩)]] w fun e w' => ∃ A c, e = .returned (.slice A 4 c) ∧ OwnB w' w.heap.size (.slice A 4 c) (be 4 n) ∧ Below w.heap.size w w' := by
  have hwr : Writ (w.alloc (.cells #[.slice none 0 0, .int .i64 0] 80)) w.heap.size w.heap.size [] := Writ.new w
  have hq' : (w.alloc (.cells #[.slice none 0 0, .int .i64 0] 80)).cell? ⟨q, 0, none⟩ = some (.int .u32 z) := (((Below.refl w.heap.size w).alloc (Nat.le_refl _) _).cell (p := ⟨q, 0, none⟩) hql).trans hq
  have h := way2_any [] n z hz _ _ q _ hwr hq' (by simp)
  have H := Lib.hid h
  clear h hwr hq' hz hq
  go_enter Tryd.func66, Tryd.ntmps66
  go_wp2_with fail
  refine H.out.mono ?_
  rintro e w1 ⟨rfl, hw1, hb1⟩
  rw [List.nil_append] at hw1
  have HDN := Lib.hid (done_any _ _ _ w1 hw1 (by rw [be_length]; omega))
  have HB1 := Lib.hid hb1
  clear hw1 hb1 H
  go_wp2_with fail
  refine HDN.out.mono ?_
  rintro e w2 ⟨A2, c2, rfl, hown2, hb2⟩
  rw [be_length] at hown2 ⊢
  have HO2 := Lib.hid hown2
  have HB2 := Lib.hid hb2
  clear hown2 hb2 HDN
  go_wp2_with fail
  go_ret
  exact ⟨A2, c2, rfl, HO2.out, ((Below.refl _ w).alloc (Nat.le_refl _) _).trans (HB1.out.trans HB2.out)⟩

set_option maxRecDepth 100000 in
theorem way3_any (pre : List UInt8) (n : Nat) (z : Int) (hz : z = ((n % 4294967296 : Nat) : Int)) (base g q : Nat) (w : World) (hw : Writ w base g pre) (hq : w.cell? ⟨q, 0, none⟩ = some (.int .u32 z)) (hlen : pre.length + 4 ≤ 140737488355328) :
    Calls Tryd.prog 68 #[.pointer (some ⟨g, 0, none⟩), .pointer (some ⟨q, 0, none⟩)] w fun e w' => e = .returned (.tuple #[]) ∧ Writ w' base g (pre ++ be 4 n) ∧ Below base w w' := by
  have h := four_any pre n z hz base g w hw hlen
  have H := Lib.hid h
  clear h hw hz
  go_enter Tryd.func68, Tryd.ntmps68
  go_wp2_with fail
  refine H.out.mono ?_
  rintro e w1 ⟨rfl, hw1, hb1⟩
  have HW := Lib.hid hw1
  have HB := Lib.hid hb1
  clear hw1 hb1 H
  go_wp2_with fail
  go_end0
  exact ⟨rfl, HW.out, HB.out⟩
set_option maxRecDepth 100000 in
theorem part3_any (n : Nat) (z : Int) (hz : z = ((n % 4294967296 : Nat) : Int)) (q : Nat) (w : World) (hql : q < w.heap.size) (hq : w.cell? ⟨q, 0, none⟩ = some (.int .u32 z)) :
    Calls Tryd.prog 66 #[.func (.func 68) #[] #[.pointer (some ⟨q, 0, none⟩)]] w fun e w' => ∃ A c, e = .returned (.slice A 4 c) ∧ OwnB w' w.heap.size (.slice A 4 c) (be 4 n) ∧ Below w.heap.size w w' := by
  have hwr : Writ (w.alloc (.cells #[.slice none 0 0, .int .i64 0] 80)) w.heap.size w.heap.size [] := Writ.new w
  have hq' : (w.alloc (.cells #[.slice none 0 0, .int .i64 0] 80)).cell? ⟨q, 0, none⟩ = some (.int .u32 z) := (((Below.refl w.heap.size w).alloc (Nat.le_refl _) _).cell (p := ⟨q, 0, none⟩) hql).trans hq
  have h := way3_any [] n z hz _ _ q _ hwr hq' (by simp)
  have H := Lib.hid h
  clear h hwr hq' hz hq
  go_enter Tryd.func66, Tryd.ntmps66
  go_wp2_with fail
  refine H.out.mono ?_
  rintro e w1 ⟨rfl, hw1, hb1⟩
  rw [List.nil_append] at hw1
  have HDN := Lib.hid (done_any _ _ _ w1 hw1 (by rw [be_length]; omega))
  have HB1 := Lib.hid hb1
  clear hw1 hb1 H
  go_wp2_with fail
  refine HDN.out.mono ?_
  rintro e w2 ⟨A2, c2, rfl, hown2, hb2⟩
  rw [be_length] at hown2 ⊢
  have HO2 := Lib.hid hown2
  have HB2 := Lib.hid hb2
  clear hown2 hb2 HDN
  go_wp2_with fail
  go_ret
  exact ⟨A2, c2, rfl, HO2.out, ((Below.refl _ w).alloc (Nat.le_refl _) _).trans (HB1.out.trans HB2.out)⟩

set_option maxRecDepth 100000 in
theorem way4_any (pre : List UInt8) (n : Nat) (M : BitVec 64) (hz : M.toNat = n % 18446744073709551616) (base g q : Nat) (w : World) (hw : Writ w base g pre) (hq : w.cell? ⟨q, 0, none⟩ = some (.int .u64 (n64 M))) (hlen : pre.length + 8 ≤ 140737488355328) :
    Calls Tryd.prog 69 #[.pointer (some ⟨g, 0, none⟩), .pointer (some ⟨q, 0, none⟩)] w fun e w' => e = .returned (.tuple #[]) ∧ Writ w' base g (pre ++ be 8 n) ∧ Below base w w' := by
  have h := eight_any pre n M hz base g w hw hlen
  have H := Lib.hid h
  clear h hw hz
  go_enter Tryd.func69, Tryd.ntmps69
  go_wp2_with fail
  refine H.out.mono ?_
  rintro e w1 ⟨rfl, hw1, hb1⟩
  have HW := Lib.hid hw1
  have HB := Lib.hid hb1
  clear hw1 hb1 H
  go_wp2_with fail
  go_end0
  exact ⟨rfl, HW.out, HB.out⟩
set_option maxRecDepth 100000 in
theorem part4_any (n : Nat) (M : BitVec 64) (hz : M.toNat = n % 18446744073709551616) (q : Nat) (w : World) (hql : q < w.heap.size) (hq : w.cell? ⟨q, 0, none⟩ = some (.int .u64 (n64 M))) :
    Calls Tryd.prog 66 #[.func (.func 69) #[] #[.pointer (some ⟨q, 0, none⟩)]] w fun e w' => ∃ A c, e = .returned (.slice A 8 c) ∧ OwnB w' w.heap.size (.slice A 8 c) (be 8 n) ∧ Below w.heap.size w w' := by
  have hwr : Writ (w.alloc (.cells #[.slice none 0 0, .int .i64 0] 80)) w.heap.size w.heap.size [] := Writ.new w
  have hq' : (w.alloc (.cells #[.slice none 0 0, .int .i64 0] 80)).cell? ⟨q, 0, none⟩ = some (.int .u64 (n64 M)) := (((Below.refl w.heap.size w).alloc (Nat.le_refl _) _).cell (p := ⟨q, 0, none⟩) hql).trans hq
  have h := way4_any [] n M hz _ _ q _ hwr hq' (by simp)
  have H := Lib.hid h
  clear h hwr hq' hz hq
  go_enter Tryd.func66, Tryd.ntmps66
  go_wp2_with fail
  refine H.out.mono ?_
  rintro e w1 ⟨rfl, hw1, hb1⟩
  rw [List.nil_append] at hw1
  have HDN := Lib.hid (done_any _ _ _ w1 hw1 (by rw [be_length]; omega))
  have HB1 := Lib.hid hb1
  clear hw1 hb1 H
  go_wp2_with fail
  refine HDN.out.mono ?_
  rintro e w2 ⟨A2, c2, rfl, hown2, hb2⟩
  rw [be_length] at hown2 ⊢
  have HO2 := Lib.hid hown2
  have HB2 := Lib.hid hb2
  clear hown2 hb2 HDN
  go_wp2_with fail
  go_ret
  exact ⟨A2, c2, rfl, HO2.out, ((Below.refl _ w).alloc (Nat.le_refl _) _).trans (HB1.out.trans HB2.out)⟩

set_option maxRecDepth 100000 in
theorem way5_any (pre : List UInt8) (n : Nat) (M : BitVec 64) (hz : M.toNat = n % 18446744073709551616) (base g q : Nat) (w : World) (hw : Writ w base g pre) (hq : w.cell? ⟨q, 0, none⟩ = some (.int .u64 (n64 M))) (hlen : pre.length + 8 ≤ 140737488355328) :
    Calls Tryd.prog 71 #[.pointer (some ⟨g, 0, none⟩), .pointer (some ⟨q, 0, none⟩)] w fun e w' => e = .returned (.tuple #[]) ∧ Writ w' base g (pre ++ be 8 n) ∧ Below base w w' := by
  have h := eight_any pre n M hz base g w hw hlen
  have H := Lib.hid h
  clear h hw hz
  go_enter Tryd.func71, Tryd.ntmps71
  go_wp2_with fail
  refine H.out.mono ?_
  rintro e w1 ⟨rfl, hw1, hb1⟩
  have HW := Lib.hid hw1
  have HB := Lib.hid hb1
  clear hw1 hb1 H
  go_wp2_with fail
  go_end0
  exact ⟨rfl, HW.out, HB.out⟩
set_option maxRecDepth 100000 in
theorem part5_any (n : Nat) (M : BitVec 64) (hz : M.toNat = n % 18446744073709551616) (q : Nat) (w : World) (hql : q < w.heap.size) (hq : w.cell? ⟨q, 0, none⟩ = some (.int .u64 (n64 M))) :
    Calls Tryd.prog 66 #[.func (.func 71) #[] #[.pointer (some ⟨q, 0, none⟩)]] w fun e w' => ∃ A c, e = .returned (.slice A 8 c) ∧ OwnB w' w.heap.size (.slice A 8 c) (be 8 n) ∧ Below w.heap.size w w' := by
  have hwr : Writ (w.alloc (.cells #[.slice none 0 0, .int .i64 0] 80)) w.heap.size w.heap.size [] := Writ.new w
  have hq' : (w.alloc (.cells #[.slice none 0 0, .int .i64 0] 80)).cell? ⟨q, 0, none⟩ = some (.int .u64 (n64 M)) := (((Below.refl w.heap.size w).alloc (Nat.le_refl _) _).cell (p := ⟨q, 0, none⟩) hql).trans hq
  have h := way5_any [] n M hz _ _ q _ hwr hq' (by simp)
  have H := Lib.hid h
  clear h hwr hq' hz hq
  go_enter Tryd.func66, Tryd.ntmps66
  go_wp2_with fail
  refine H.out.mono ?_
  rintro e w1 ⟨rfl, hw1, hb1⟩
  rw [List.nil_append] at hw1
  have HDN := Lib.hid (done_any _ _ _ w1 hw1 (by rw [be_length]; omega))
  have HB1 := Lib.hid hb1
  clear hw1 hb1 H
  go_wp2_with fail
  refine HDN.out.mono ?_
  rintro e w2 ⟨A2, c2, rfl, hown2, hb2⟩
  rw [be_length] at hown2 ⊢
  have HO2 := Lib.hid hown2
  have HB2 := Lib.hid hb2
  clear hown2 hb2 HDN
  go_wp2_with fail
  go_ret
  exact ⟨A2, c2, rfl, HO2.out, ((Below.refl _ w).alloc (Nat.le_refl _) _).trans (HB1.out.trans HB2.out)⟩

def wayS : ByteArray := { data := #[119, 97, 121] }
/-- What a way's key is of. -/
def wayParts (way s e c v : Nat) : List (List UInt8) := [be 1 way, be 4 s, be 4 e, be 8 c, be 8 v]
def wayKey (sec : List UInt8) (way s e c v : Nat) : List UInt8 := hmac sec (laidB wayS (wayParts way s e c v))
theorem wayKey_length (sec : List UInt8) (way s e c v : Nat) : (wayKey sec way s e c v).length = 32 := by rw [wayKey, hmac]; exact sha_length _
theorem laid_way_length (way s e c v : Nat) : (laidB wayS (wayParts way s e c v)).length ≤ 1000000 := by
  have h3 : wayS.data.toList.length = 3 := rfl
  simp only [laidB, wayParts, List.map_cons, List.map_nil, List.flatten_cons, List.flatten_nil, List.length_append, lay, be_length, List.length_nil, h3]
  omega

theorem OwnB.slice {w : World} {base n c : Nat} {A : Option Addr} {l : List UInt8} (h : OwnB w base (.slice A n c) l) : SliceOf w w.heap.size (.slice A n c) l := by
  obtain ⟨A', c', e, h1, h2⟩ := h.form
  have hb := h.bytes
  injection e with e1 e2 e3
  subst e1 e2 e3
  exact ⟨A, l.length, c, rfl, h1, h2, hb⟩
theorem SliceOf.grows {w w' : World} {v : Value} {l : List UInt8} (h : SliceOf w w.heap.size v l) (hb : Below w.heap.size w w') : SliceOf w' w'.heap.size v l := by
  obtain ⟨A, m, c, e, h1, h2, h3⟩ := h
  exact ⟨A, m, c, e, h1, h2, (h3.below hb).more hb.size⟩

set_option maxRecDepth 100000 in
theorem way_bad (z : Int) (hz0 : (z != 0) = true) (hz1 : (z != 1) = true) (R : Option Addr) (s e c v : Int) (w : World) :
    Calls Tryd.prog 40 #[.pointer R, .int .i64 z, .int .u32 s, .int .u32 e, .int .u64 c, .int .u64 v] w fun e w' => e = .returned (.agg (u8s (zeros 32)).toArray) ∧ Below w.heap.size w w' := by
  obtain ⟨W0, hW0⟩ : ∃ W0 : World, W0 = (((w.alloc (.cells #[.int .u32 s] 62)).alloc (.cells #[.int .u32 e] 62)).alloc (.cells #[.int .u64 c] 49)).alloc (.cells #[.int .u64 v] 49) := ⟨_, rfl⟩
  obtain ⟨W1, hW1⟩ : ∃ W1 : World, W1 = W0.alloc (.cells (u8s (zeros 32)).toArray 43) := ⟨_, rfl⟩
  have hs0 : W0.heap.size = w.heap.size + 1 + 1 + 1 + 1 := by rw [hW0]; simp
  have hb1 : Below w.heap.size w W1 := by
    rw [hW1]
    have : Below w.heap.size w W0 := by rw [hW0]; exact ((((Below.refl _ w).alloc (Nat.le_refl _) _).alloc (by simp) _).alloc (by simp; omega) _).alloc (by simp; omega) _
    exact this.alloc this.size _
  have hr1 : Row W1 (w.heap.size + 1 + 1 + 1 + 1) 43 (u8s (zeros 32)).toArray := by rw [hW1, ← hs0]; exact Row.new W0 _ _
  have HI := Lib.hid (info_key (zeros 32) (by simp [zeros]))
  have HR1 := Lib.hid hr1
  have HB1 := Lib.hid hb1
  have HW0 := Lib.hid hW0
  have HW1 := Lib.hid hW1
  clear hr1 hb1 hW0 hW1 hs0
  go_enter Tryd.func40, Tryd.ntmps40
  go_upto_region 2 with (fail)
  change Code.wp _ _ _ _ (((((w.alloc (.cells #[.int .u32 s] 62)).alloc (.cells #[.int .u32 e] 62)).alloc (.cells #[.int .u64 c] 49)).alloc (.cells #[.int .u64 v] 49)).alloc (.cells (u8s (zeros 32)).toArray 43))
  rw [← HW0.out, ← HW1.out]
  go_wp2_with ((with_reducible show wpList _ _ _ (⟨none, .store _ _ _, _, _, _, _⟩ :: _) _ _); go_loud (refine wpList_store_self rfl 43 _ _ rfl (w.heap.size + 1 + 1 + 1 + 1) (u8s (zeros 32)).toArray rfl rfl 43 HR1.out HI.out (u8s_all _) ?_))
  exact bodyPost_ret (results_cell_row rfl _ _ (w.heap.size + 1 + 1 + 1 + 1) 43 _ (0, 0) _ rfl HR1.out Tryd.underlying43 rfl HI.out) rfl ⟨rfl, HB1.out⟩

set_option maxRecDepth 100000 in
set_option maxHeartbeats 4000000 in
theorem way_any (sec : List UInt8) (base g way s e : Nat) (C V : BitVec 64) (w : World) (hr : RingAt w base g sec) (h1 : 1 ≤ sec.length) (h2 : sec.length ≤ 64) (hway : way < 2) (hs : s < 4294967296) (he : e < 4294967296) (hk : Consts w) (hst : Starts w) :
    Calls Tryd.prog 40 #[.pointer (some ⟨g, 0, none⟩), .int .i64 (way : Int), .int .u32 (s : Int), .int .u32 (e : Int), .int .u64 (n64 C), .int .u64 (n64 V)] w fun e' w' => e' = .returned (.agg (u8s (wayKey sec way s e C.toNat V.toNat)).toArray) ∧ Below w.heap.size w w' := by
  obtain ⟨W0, hW0⟩ : ∃ W0 : World, W0 = (((w.alloc (.cells #[.int .u32 (s : Int)] 62)).alloc (.cells #[.int .u32 (e : Int)] 62)).alloc (.cells #[.int .u64 (n64 C)] 49)).alloc (.cells #[.int .u64 (n64 V)] 49) := ⟨_, rfl⟩
  obtain ⟨W1, hW1⟩ : ∃ W1 : World, W1 = W0.alloc (.cells (u8s (zeros 32)).toArray 43) := ⟨_, rfl⟩
  have hs0 : W0.heap.size = w.heap.size + 1 + 1 + 1 + 1 := by rw [hW0]; simp
  have hs1 : W1.heap.size = w.heap.size + 1 + 1 + 1 + 1 + 1 := by rw [hW1]; simp [hs0]
  have hb1 : Below w.heap.size w W1 := by
    rw [hW1]
    have : Below w.heap.size w W0 := by rw [hW0]; exact ((((Below.refl _ w).alloc (Nat.le_refl _) _).alloc (by simp) _).alloc (by simp; omega) _).alloc (by simp; omega) _
    exact this.alloc this.size _
  have hr1 : Row W1 (w.heap.size + 1 + 1 + 1 + 1) 43 (u8s (zeros 32)).toArray := by rw [hW1, ← hs0]; exact Row.new W0 _ _
  have q0 : W1.cell? ⟨w.heap.size, 0, none⟩ = some (.int .u32 (s : Int)) := by
    rw [hW1, hW0]; exact ((((Row.new w 62 #[.int .u32 (s : Int)]).alloc _).alloc _).alloc _ |>.alloc _).cell 0
  have q1 : W1.cell? ⟨w.heap.size + 1, 0, none⟩ = some (.int .u32 (e : Int)) := by
    have := (((Row.new (w.alloc (.cells #[.int .u32 (s : Int)] 62)) 62 #[.int .u32 (e : Int)]).alloc (.cells #[.int .u64 (n64 C)] 49)).alloc (.cells #[.int .u64 (n64 V)] 49) |>.alloc (.cells (u8s (zeros 32)).toArray 43)).cell 0
    rw [hW1, hW0]; simpa using this
  have q2 : W1.cell? ⟨w.heap.size + 1 + 1, 0, none⟩ = some (.int .u64 (n64 C)) := by
    have := ((Row.new ((w.alloc (.cells #[.int .u32 (s : Int)] 62)).alloc (.cells #[.int .u32 (e : Int)] 62)) 49 #[.int .u64 (n64 C)]).alloc (.cells #[.int .u64 (n64 V)] 49) |>.alloc (.cells (u8s (zeros 32)).toArray 43)).cell 0
    rw [hW1, hW0]; simpa using this
  have q3 : W1.cell? ⟨w.heap.size + 1 + 1 + 1, 0, none⟩ = some (.int .u64 (n64 V)) := by
    have := ((Row.new (((w.alloc (.cells #[.int .u32 (s : Int)] 62)).alloc (.cells #[.int .u32 (e : Int)] 62)).alloc (.cells #[.int .u64 (n64 C)] 49)) 49 #[.int .u64 (n64 V)]).alloc (.cells (u8s (zeros 32)).toArray 43)).cell 0
    rw [hW1, hW0]; simpa using this
  have Q0 := Lib.hid q0
  have Q1 := Lib.hid q1
  have Q2 := Lib.hid q2
  have Q3 := Lib.hid q3
  have HR1 := Lib.hid hr1
  have HB1 := Lib.hid hb1
  have HW0 := Lib.hid hW0
  have HW1 := Lib.hid hW1
  have HS1 := Lib.hid hs1
  have HRG : Hid (RingAt W1 base g sec) := hr.below hb1
  have HC : Hid (Consts W1) := hk.below hb1
  have HS : Hid (Starts W1) := hst.below hb1
  have hcl := C.isLt
  have hvl := V.isLt
  obtain ⟨out, hout⟩ : ∃ out, out = wayKey sec way s e C.toNat V.toNat := ⟨_, rfl⟩
  have hol : out.length = 32 := by rw [hout]; exact wayKey_length ..
  have HOUT := Lib.hid hout
  have HI := Lib.hid (info_key out hol)
  have HZ := Lib.hid (zeros32_size out hol)
  have hbyte : be 1 way = [UInt8.ofNat way] := rfl
  have HBYTE := Lib.hid hbyte
  clear q0 q1 q2 q3 hr1 hb1 hW0 hW1 hs0 hs1 hr hk hst hout hcl hvl hbyte
  have hmf := @hmf
  have hw' : way = 0 ∨ way = 1 := by omega
  clear hway
  rcases hw' with rfl | rfl
  · go_enter Tryd.func40, Tryd.ntmps40
    go_wp2_with fail
    change Calls _ _ _ ((((((w.alloc (.cells #[.int .u32 (s : Int)] 62)).alloc (.cells #[.int .u32 (e : Int)] 62)).alloc (.cells #[.int .u64 (n64 C)] 49)).alloc (.cells #[.int .u64 (n64 V)] 49)).alloc (.cells (u8s (zeros 32)).toArray 43)).alloc (.cells #[.int .u8 0] 5)) _
    rw [← HW0.out, ← HW1.out, ← HS1.out]
    have hb2 : Below W1.heap.size W1 (W1.alloc (.cells #[.int .u8 0] 5)) := (Below.refl _ _).alloc (Nat.le_refl _) _
    have hsl0 : SliceOf (W1.alloc (.cells #[.int .u8 0] 5)) (W1.alloc (.cells #[.int .u8 0] 5)).heap.size (.slice (some ⟨W1.heap.size, 0, none⟩) 1 1) (be 1 0) := sliceOf_bytes ((bytes_new W1 (be 1 0) #[.int .u8 0] rfl 1 rfl).more (by simp)) (Nat.le_refl _) (by decide)
    obtain ⟨w2, hw2⟩ : ∃ w2 : World, w2 = W1.alloc (.cells #[.int .u8 0] 5) := ⟨_, rfl⟩
    rw [← hw2] at hb2 hsl0 ⊢
    have HBW2 := Lib.hid hb2
    have HSL0w2 := Lib.hid hsl0
    clear hw2 hb2 hsl0 HW0 HW1
    have hp2 := part2_any s s (by omega) (w.heap.size) w2 (by have := HBW2.out.size; have := HS1.out; omega) ((HBW2.out.cell (p := ⟨w.heap.size, 0, none⟩) (by have := HS1.out; show w.heap.size < _; omega)).trans Q0.out)
    have HP2 := Lib.hid hp2
    clear hp2
    refine HP2.out.mono ?_
    rintro e2 w3 ⟨A2, c2, rfl, hown2, hb2⟩
    have HBW3 : Hid (Below W1.heap.size W1 w3) := HBW2.out.trans (hb2.mono HBW2.out.size)
    have HSL0w3 := Lib.hid (HSL0w2.out.grows hb2)
    have HSL1w3 := Lib.hid hown2.slice
    clear hown2 hb2 HP2 HSL0w2 HBW2
    have hp3 := part3_any e e (by omega) (w.heap.size + 1) w3 (by have := HBW3.out.size; have := HS1.out; omega) ((HBW3.out.cell (p := ⟨w.heap.size + 1, 0, none⟩) (by have := HS1.out; show w.heap.size + 1 < _; omega)).trans Q1.out)
    have HP3 := Lib.hid hp3
    clear hp3
    go_wp2_with fail
    refine HP3.out.mono ?_
    rintro e3 w4 ⟨A3, c3, rfl, hown3, hb3⟩
    have HBW4 : Hid (Below W1.heap.size W1 w4) := HBW3.out.trans (hb3.mono HBW3.out.size)
    have HSL0w4 := Lib.hid (HSL0w3.out.grows hb3)
    have HSL1w4 := Lib.hid (HSL1w3.out.grows hb3)
    have HSL2w4 := Lib.hid hown3.slice
    clear hown3 hb3 HP3 HSL0w3 HSL1w3 HBW3
    have hp4 := part4_any C.toNat C (by have := C.isLt; omega) (w.heap.size + 1 + 1) w4 (by have := HBW4.out.size; have := HS1.out; omega) ((HBW4.out.cell (p := ⟨w.heap.size + 1 + 1, 0, none⟩) (by have := HS1.out; show w.heap.size + 1 + 1 < _; omega)).trans Q2.out)
    have HP4 := Lib.hid hp4
    clear hp4
    go_wp2_with fail
    refine HP4.out.mono ?_
    rintro e4 w5 ⟨A4, c4, rfl, hown4, hb4⟩
    have HBW5 : Hid (Below W1.heap.size W1 w5) := HBW4.out.trans (hb4.mono HBW4.out.size)
    have HSL0w5 := Lib.hid (HSL0w4.out.grows hb4)
    have HSL1w5 := Lib.hid (HSL1w4.out.grows hb4)
    have HSL2w5 := Lib.hid (HSL2w4.out.grows hb4)
    have HSL3w5 := Lib.hid hown4.slice
    clear hown4 hb4 HP4 HSL0w4 HSL1w4 HSL2w4 HBW4
    have hp5 := part5_any V.toNat V (by have := V.isLt; omega) (w.heap.size + 1 + 1 + 1) w5 (by have := HBW5.out.size; have := HS1.out; omega) ((HBW5.out.cell (p := ⟨w.heap.size + 1 + 1 + 1, 0, none⟩) (by have := HS1.out; show w.heap.size + 1 + 1 + 1 < _; omega)).trans Q3.out)
    have HP5 := Lib.hid hp5
    clear hp5
    go_wp2_with fail
    refine HP5.out.mono ?_
    rintro e5 w6 ⟨A5, c5, rfl, hown5, hb5⟩
    have HBW6 : Hid (Below W1.heap.size W1 w6) := HBW5.out.trans (hb5.mono HBW5.out.size)
    have HSL0w6 := Lib.hid (HSL0w5.out.grows hb5)
    have HSL1w6 := Lib.hid (HSL1w5.out.grows hb5)
    have HSL2w6 := Lib.hid (HSL2w5.out.grows hb5)
    have HSL3w6 := Lib.hid (HSL3w5.out.grows hb5)
    have HSL4w6 := Lib.hid hown5.slice
    clear hown5 hb5 HP5 HSL0w5 HSL1w5 HSL2w5 HSL3w5 HBW5
    have hps := parts_new w6 22 [.slice (some ⟨W1.heap.size, 0, none⟩) 1 1, .slice A2 4 c2, .slice A3 4 c3, .slice A4 8 c4, .slice A5 8 c5] (wayParts 0 s e C.toNat V.toNat) ⟨HSL0w6.out, HSL1w6.out, HSL2w6.out, HSL3w6.out, HSL4w6.out, trivial⟩
    have hky := key_any sec base g wayS (wayParts 0 s e C.toNat V.toNat) (some ⟨w6.heap.size, 0, none⟩) 5 5 _ (HRG.out.below (HBW6.out.alloc HBW6.out.size _)) h1 h2 (by decide) hps (laid_way_length ..) (by decide) (HC.out.below (HBW6.out.alloc HBW6.out.size _)) (HS.out.below (HBW6.out.alloc HBW6.out.size _))
    rw [show hmac sec (laidB wayS (wayParts 0 s e C.toNat V.toNat)) = out from HOUT.out.symm] at hky
    have HKY := Lib.hid hky
    clear hps hky HSL0w6 HSL1w6 HSL2w6 HSL3w6 HSL4w6
    go_wp2_with fail
    refine HKY.out.mono ?_
    rintro e7 w7 ⟨rfl, hb7⟩
    have HBW7 : Hid (Below W1.heap.size W1 w7) := (HBW6.out.alloc HBW6.out.size _).trans (hb7.mono (by have := HBW6.out.size; simp; omega))
    have HR7 : Hid (Row w7 (w.heap.size + 1 + 1 + 1 + 1) 43 (u8s (zeros 32)).toArray) := HR1.out.below HBW7.out HR1.out.lt
    clear hb7 HKY
    go_wp2_with ((with_reducible show wpList _ _ _ (⟨none, .store _ _ _, _, _, _, _⟩ :: _) _ _); go_loud (refine wpList_store_row rfl 43 _ _ rfl (w.heap.size + 1 + 1 + 1 + 1) (u8s out).toArray rfl rfl 43 _ HR7.out HI.out HZ.out (u8s_all _) ?_))
    exact bodyPost_ret (results_cell_row rfl _ _ (w.heap.size + 1 + 1 + 1 + 1) 43 _ (0, 0) _ rfl (Row.setRowSame HR7.out _) Tryd.underlying43 rfl HI.out) rfl ⟨(by rw [HOUT.out]), below_setRow (HB1.out.trans (HBW7.out.mono HB1.out.size)) (by omega) _⟩
  · go_enter Tryd.func40, Tryd.ntmps40
    go_wp2_with fail
    change Calls _ _ _ ((((((w.alloc (.cells #[.int .u32 (s : Int)] 62)).alloc (.cells #[.int .u32 (e : Int)] 62)).alloc (.cells #[.int .u64 (n64 C)] 49)).alloc (.cells #[.int .u64 (n64 V)] 49)).alloc (.cells (u8s (zeros 32)).toArray 43)).alloc (.cells #[.int .u8 1] 5)) _
    rw [← HW0.out, ← HW1.out, ← HS1.out]
    have hb2 : Below W1.heap.size W1 (W1.alloc (.cells #[.int .u8 1] 5)) := (Below.refl _ _).alloc (Nat.le_refl _) _
    have hsl0 : SliceOf (W1.alloc (.cells #[.int .u8 1] 5)) (W1.alloc (.cells #[.int .u8 1] 5)).heap.size (.slice (some ⟨W1.heap.size, 0, none⟩) 1 1) (be 1 1) := sliceOf_bytes ((bytes_new W1 (be 1 1) #[.int .u8 1] rfl 1 rfl).more (by simp)) (Nat.le_refl _) (by decide)
    obtain ⟨w2, hw2⟩ : ∃ w2 : World, w2 = W1.alloc (.cells #[.int .u8 1] 5) := ⟨_, rfl⟩
    rw [← hw2] at hb2 hsl0 ⊢
    have HBW2 := Lib.hid hb2
    have HSL0w2 := Lib.hid hsl0
    clear hw2 hb2 hsl0 HW0 HW1
    have hp2 := part2_any s s (by omega) (w.heap.size) w2 (by have := HBW2.out.size; have := HS1.out; omega) ((HBW2.out.cell (p := ⟨w.heap.size, 0, none⟩) (by have := HS1.out; show w.heap.size < _; omega)).trans Q0.out)
    have HP2 := Lib.hid hp2
    clear hp2
    refine HP2.out.mono ?_
    rintro e2 w3 ⟨A2, c2, rfl, hown2, hb2⟩
    have HBW3 : Hid (Below W1.heap.size W1 w3) := HBW2.out.trans (hb2.mono HBW2.out.size)
    have HSL0w3 := Lib.hid (HSL0w2.out.grows hb2)
    have HSL1w3 := Lib.hid hown2.slice
    clear hown2 hb2 HP2 HSL0w2 HBW2
    have hp3 := part3_any e e (by omega) (w.heap.size + 1) w3 (by have := HBW3.out.size; have := HS1.out; omega) ((HBW3.out.cell (p := ⟨w.heap.size + 1, 0, none⟩) (by have := HS1.out; show w.heap.size + 1 < _; omega)).trans Q1.out)
    have HP3 := Lib.hid hp3
    clear hp3
    go_wp2_with fail
    refine HP3.out.mono ?_
    rintro e3 w4 ⟨A3, c3, rfl, hown3, hb3⟩
    have HBW4 : Hid (Below W1.heap.size W1 w4) := HBW3.out.trans (hb3.mono HBW3.out.size)
    have HSL0w4 := Lib.hid (HSL0w3.out.grows hb3)
    have HSL1w4 := Lib.hid (HSL1w3.out.grows hb3)
    have HSL2w4 := Lib.hid hown3.slice
    clear hown3 hb3 HP3 HSL0w3 HSL1w3 HBW3
    have hp4 := part4_any C.toNat C (by have := C.isLt; omega) (w.heap.size + 1 + 1) w4 (by have := HBW4.out.size; have := HS1.out; omega) ((HBW4.out.cell (p := ⟨w.heap.size + 1 + 1, 0, none⟩) (by have := HS1.out; show w.heap.size + 1 + 1 < _; omega)).trans Q2.out)
    have HP4 := Lib.hid hp4
    clear hp4
    go_wp2_with fail
    refine HP4.out.mono ?_
    rintro e4 w5 ⟨A4, c4, rfl, hown4, hb4⟩
    have HBW5 : Hid (Below W1.heap.size W1 w5) := HBW4.out.trans (hb4.mono HBW4.out.size)
    have HSL0w5 := Lib.hid (HSL0w4.out.grows hb4)
    have HSL1w5 := Lib.hid (HSL1w4.out.grows hb4)
    have HSL2w5 := Lib.hid (HSL2w4.out.grows hb4)
    have HSL3w5 := Lib.hid hown4.slice
    clear hown4 hb4 HP4 HSL0w4 HSL1w4 HSL2w4 HBW4
    have hp5 := part5_any V.toNat V (by have := V.isLt; omega) (w.heap.size + 1 + 1 + 1) w5 (by have := HBW5.out.size; have := HS1.out; omega) ((HBW5.out.cell (p := ⟨w.heap.size + 1 + 1 + 1, 0, none⟩) (by have := HS1.out; show w.heap.size + 1 + 1 + 1 < _; omega)).trans Q3.out)
    have HP5 := Lib.hid hp5
    clear hp5
    go_wp2_with fail
    refine HP5.out.mono ?_
    rintro e5 w6 ⟨A5, c5, rfl, hown5, hb5⟩
    have HBW6 : Hid (Below W1.heap.size W1 w6) := HBW5.out.trans (hb5.mono HBW5.out.size)
    have HSL0w6 := Lib.hid (HSL0w5.out.grows hb5)
    have HSL1w6 := Lib.hid (HSL1w5.out.grows hb5)
    have HSL2w6 := Lib.hid (HSL2w5.out.grows hb5)
    have HSL3w6 := Lib.hid (HSL3w5.out.grows hb5)
    have HSL4w6 := Lib.hid hown5.slice
    clear hown5 hb5 HP5 HSL0w5 HSL1w5 HSL2w5 HSL3w5 HBW5
    have hps := parts_new w6 22 [.slice (some ⟨W1.heap.size, 0, none⟩) 1 1, .slice A2 4 c2, .slice A3 4 c3, .slice A4 8 c4, .slice A5 8 c5] (wayParts 1 s e C.toNat V.toNat) ⟨HSL0w6.out, HSL1w6.out, HSL2w6.out, HSL3w6.out, HSL4w6.out, trivial⟩
    have hky := key_any sec base g wayS (wayParts 1 s e C.toNat V.toNat) (some ⟨w6.heap.size, 0, none⟩) 5 5 _ (HRG.out.below (HBW6.out.alloc HBW6.out.size _)) h1 h2 (by decide) hps (laid_way_length ..) (by decide) (HC.out.below (HBW6.out.alloc HBW6.out.size _)) (HS.out.below (HBW6.out.alloc HBW6.out.size _))
    rw [show hmac sec (laidB wayS (wayParts 1 s e C.toNat V.toNat)) = out from HOUT.out.symm] at hky
    have HKY := Lib.hid hky
    clear hps hky HSL0w6 HSL1w6 HSL2w6 HSL3w6 HSL4w6
    go_wp2_with fail
    refine HKY.out.mono ?_
    rintro e7 w7 ⟨rfl, hb7⟩
    have HBW7 : Hid (Below W1.heap.size W1 w7) := (HBW6.out.alloc HBW6.out.size _).trans (hb7.mono (by have := HBW6.out.size; simp; omega))
    have HR7 : Hid (Row w7 (w.heap.size + 1 + 1 + 1 + 1) 43 (u8s (zeros 32)).toArray) := HR1.out.below HBW7.out HR1.out.lt
    clear hb7 HKY
    go_wp2_with ((with_reducible show wpList _ _ _ (⟨none, .store _ _ _, _, _, _, _⟩ :: _) _ _); go_loud (refine wpList_store_row rfl 43 _ _ rfl (w.heap.size + 1 + 1 + 1 + 1) (u8s out).toArray rfl rfl 43 _ HR7.out HI.out HZ.out (u8s_all _) ?_))
    exact bodyPost_ret (results_cell_row rfl _ _ (w.heap.size + 1 + 1 + 1 + 1) 43 _ (0, 0) _ rfl (Row.setRowSame HR7.out _) Tryd.underlying43 rfl HI.out) rfl ⟨(by rw [HOUT.out]), below_setRow (HB1.out.trans (HBW7.out.mono HB1.out.size)) (by omega) _⟩
end Go.Proofs.YtgejndannlfhkaaDoor
