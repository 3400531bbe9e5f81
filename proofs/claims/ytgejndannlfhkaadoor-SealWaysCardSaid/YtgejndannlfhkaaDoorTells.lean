/- The walk of longwirelaw02.tells: true. -/
import Derived.Test.YtgejndannlfhkaaDoorHmac
import Derived.Lib.SlBytesConst
namespace Go.Proofs.YtgejndannlfhkaaDoor
open Go Go.RowKit Go.Shelf

def abcHash : List UInt8 := [186, 120, 22, 191, 143, 1, 207, 234, 65, 65, 64, 222, 93, 174, 34, 35, 176, 3, 97, 163, 150, 23, 122, 156, 180, 16, 255, 97, 242, 0, 21, 173]
def jefeHash : List UInt8 := [91, 220, 193, 70, 191, 96, 117, 78, 106, 4, 36, 38, 8, 149, 117, 199, 90, 0, 63, 8, 157, 39, 57, 131, 157, 236, 88, 185, 100, 236, 56, 67]
set_option maxRecDepth 100000 in
theorem sha_abc : sha [97, 98, 99] = abcHash := by decide +kernel
set_option maxRecDepth 100000 in
theorem hmac_jefe : hmac [74, 101, 102, 101] ([119, 104, 97, 116, 32, 100, 111, 32, 121, 97, 32, 119, 97, 110, 116, 32] ++ [102, 111, 114, 32, 110, 111, 116, 104, 105, 110, 103, 63]) = jefeHash := by decide +kernel

theorem convert_const (W : World) (C : Array Value) (n c g : Nat) (hg : g = W.heap.size) : (convert 22 22 (.slice (some ⟨g, 0, none⟩) n c)).run Tryd.prog (W.alloc (.cells C 5)) = .ok (.slice (some ⟨g, 0, none⟩) n c) (W.alloc (.cells C 5 (C.size, C.size + 1))) := by
  subst hg
  exact Lib.run_convert_bytes_const W _ _ C n c Tryd.underlying22 Tryd.underlying5

/-- A string made of bytes. -/
theorem run_str {w : World} {B : Nat} {A : Option Addr} {n : Nat} {l : List UInt8} (h : BytesIn w B A n l) (c : Nat) : (convert 22 9 (.slice A n c)).run Tryd.prog w = .ok (.string ⟨l.toArray⟩) w := by
  by_cases hn : 0 < n
  · obtain ⟨g, o, rfl, _, hc⟩ := h.2 hn
    have := run_convert_bytes_back (P := Tryd.prog) w 22 9 5 ⟨g, o, none⟩ c l Tryd.underlying22 Tryd.underlying5 Tryd.underlying9 (fun j hj => by
      rw [Addr.add_lit, hc j (by rw [← h.1]; exact hj)]
      simp [n8, List.getD, hj])
    rwa [h.1] at this
  · obtain rfl : n = 0 := by omega
    obtain rfl : l = [] := List.eq_nil_of_length_eq_zero h.1
    cases A with
    | none => exact run_convert_bytes_nil w 22 5 Tryd.underlying22 Tryd.underlying5 0 c 9 Tryd.underlying9
    | some ad =>
      exact run_convert_bytes_back (P := Tryd.prog) w 22 9 5 ad c [] Tryd.underlying22 Tryd.underlying5 Tryd.underlying9 (fun j hj => by simp at hj)

theorem bytesIn_cells {w : World} {g B : Nat} {T : TypeId} {l : List UInt8} {fr : Nat × Nat} (h : w.heap[g]? = some (.cells (u8s l).toArray T fr)) (hg : g < B) : BytesIn w B (some ⟨g, 0, none⟩) l.length l :=
  ⟨rfl, fun _ => ⟨g, 0, rfl, hg, fun i hi => by
    rw [cell_of_row w g (0 + i) _ T fr h, Nat.zero_add, List.getElem?_toArray, u8s_get l i hi]⟩⟩

/-- A slice of a part of a row of bytes. -/
theorem bytesIn_part {w : World} {g B : Nat} {T : TypeId} {l : List UInt8} (h : Row w g T (u8s l).toArray) (hg : g < B) (o n : Nat) (hn : o + n ≤ l.length) : BytesIn w B (some ⟨g, o, none⟩) n ((l.drop o).take n) :=
  ⟨by simp; omega, fun _ => ⟨g, o, rfl, hg, fun i hi => by
    rw [h.cell (o + i), List.getElem?_toArray, u8s_get l (o + i) (by omega)]
    simp [List.getD, hi]⟩⟩

theorem abc_slice (w : World) (hk : Consts w) (hst : Starts w) :
    Calls Tryd.prog 12 #[.slice (some ⟨w.heap.size + 1, 0, none⟩) 1 1] ((w.alloc (.cells #[.int .u8 97, .int .u8 98, .int .u8 99] 5 (3, 4))).alloc (.cells #[.slice (some ⟨w.heap.size, 0, none⟩) 3 3] 22))
      fun e w' => e = .returned (.agg (u8s abcHash).toArray) ∧ Below w.heap.size w w' := by
  have hs1 : (w.alloc (.cells #[.int .u8 97, .int .u8 98, .int .u8 99] 5 (3, 4))).heap.size = w.heap.size + 1 := by simp
  have hb : BytesIn (w.alloc (.cells #[.int .u8 97, .int .u8 98, .int .u8 99] 5 (3, 4))) (w.alloc (.cells #[.int .u8 97, .int .u8 98, .int .u8 99] 5 (3, 4))).heap.size (some ⟨w.heap.size, 0, none⟩) 3 [97, 98, 99] :=
    bytesIn_cells (l := [97, 98, 99]) (T := 5) (fr := (3, 4)) (Go.heap_alloc_new w _) (by omega)
  have hsha := sha_any [[97, 98, 99]] (some ⟨w.heap.size + 1, 0, none⟩) 1 1 _ (by omega) (partsIn_one (kc := 3) hb (by omega) (by decide) hs1.symm) (by decide) ((hk.alloc _).alloc _) ((hst.alloc _).alloc _)
  refine hsha.mono ?_
  rintro e w' ⟨rfl, hb⟩
  refine ⟨by rw [← sha_abc]; rfl, ?_⟩
  exact (((Below.refl _ w).alloc (Nat.le_refl _) _).alloc (by omega) _).trans (hb.mono (by simp; omega))

theorem bytesIn_mark (w : World) (l : List UInt8) (C : Array Value) (hC : C = (u8s l).toArray) (fr : Nat × Nat) (n g : Nat) (hn : l.length = n) (hg : g = w.heap.size) : BytesIn (w.alloc (.cells C 5 fr)) (w.alloc (.cells C 5 fr)).heap.size (some ⟨g, 0, none⟩) n l := by
  subst hC hn hg
  exact bytesIn_cells (T := 5) (fr := fr) (Go.heap_alloc_new w _) (by simp)

theorem jefe_slice (w : World) (n : Nat) (hs : n = w.heap.size) (hk : Consts w) (hst : Starts w) :
    Calls Tryd.prog 14 #[.slice (some ⟨n, 0, none⟩) 4 4, .slice (some ⟨n + 1 + 1 + 1, 0, none⟩) 2 2] ((((w.alloc (.cells #[.int .u8 74, .int .u8 101, .int .u8 102, .int .u8 101] 5 (4, 5))).alloc (.cells #[.int .u8 119, .int .u8 104, .int .u8 97, .int .u8 116, .int .u8 32, .int .u8 100, .int .u8 111, .int .u8 32, .int .u8 121, .int .u8 97, .int .u8 32, .int .u8 119, .int .u8 97, .int .u8 110, .int .u8 116, .int .u8 32] 5 (16, 17))).alloc (.cells #[.int .u8 102, .int .u8 111, .int .u8 114, .int .u8 32, .int .u8 110, .int .u8 111, .int .u8 116, .int .u8 104, .int .u8 105, .int .u8 110, .int .u8 103, .int .u8 63] 5 (12, 13))).alloc (.cells #[.slice (some ⟨n + 1, 0, none⟩) 16 16, .slice (some ⟨n + 1 + 1, 0, none⟩) 12 12] 22))
      fun e w' => e = .returned (.agg (u8s jefeHash).toArray) ∧ Below w.heap.size w w' := by
  obtain ⟨w1, h1⟩ : ∃ w1 : World, w1 = w.alloc (.cells #[.int .u8 74, .int .u8 101, .int .u8 102, .int .u8 101] 5 (4, 5)) := ⟨_, rfl⟩
  obtain ⟨w2, h2⟩ : ∃ w2 : World, w2 = w1.alloc (.cells #[.int .u8 119, .int .u8 104, .int .u8 97, .int .u8 116, .int .u8 32, .int .u8 100, .int .u8 111, .int .u8 32, .int .u8 121, .int .u8 97, .int .u8 32, .int .u8 119, .int .u8 97, .int .u8 110, .int .u8 116, .int .u8 32] 5 (16, 17)) := ⟨_, rfl⟩
  obtain ⟨w3, h3⟩ : ∃ w3 : World, w3 = w2.alloc (.cells #[.int .u8 102, .int .u8 111, .int .u8 114, .int .u8 32, .int .u8 110, .int .u8 111, .int .u8 116, .int .u8 104, .int .u8 105, .int .u8 110, .int .u8 103, .int .u8 63] 5 (12, 13)) := ⟨_, rfl⟩
  rw [← h1, ← h2, ← h3]
  have b1 := bytesIn_mark w [74, 101, 102, 101] #[.int .u8 74, .int .u8 101, .int .u8 102, .int .u8 101] rfl (4, 5) 4 n rfl hs
  rw [← h1] at b1
  have s1 : w1.heap.size = n + 1 := by rw [h1, hs]; simp
  have b2 := bytesIn_mark w1 [119, 104, 97, 116, 32, 100, 111, 32, 121, 97, 32, 119, 97, 110, 116, 32] #[.int .u8 119, .int .u8 104, .int .u8 97, .int .u8 116, .int .u8 32, .int .u8 100, .int .u8 111, .int .u8 32, .int .u8 121, .int .u8 97, .int .u8 32, .int .u8 119, .int .u8 97, .int .u8 110, .int .u8 116, .int .u8 32] rfl (16, 17) 16 (n + 1) rfl s1.symm
  rw [← h2] at b2
  have s2 : w2.heap.size = n + 1 + 1 := by rw [h2, ← s1]; simp
  have b3 := bytesIn_mark w2 [102, 111, 114, 32, 110, 111, 116, 104, 105, 110, 103, 63] #[.int .u8 102, .int .u8 111, .int .u8 114, .int .u8 32, .int .u8 110, .int .u8 111, .int .u8 116, .int .u8 104, .int .u8 105, .int .u8 110, .int .u8 103, .int .u8 63] rfl (12, 13) 12 (n + 1 + 1) rfl s2.symm
  rw [← h3] at b3
  have s3 : w3.heap.size = n + 1 + 1 + 1 := by rw [h3, ← s2]; simp
  have k1 : Below w.heap.size w w1 := by rw [h1]; exact (Below.refl _ w).alloc (Nat.le_refl _) _
  have k2 : Below w1.heap.size w1 w2 := by rw [h2]; exact (Below.refl _ w1).alloc (Nat.le_refl _) _
  have k3 : Below w2.heap.size w2 w3 := by rw [h3]; exact (Below.refl _ w2).alloc (Nat.le_refl _) _
  clear h1 h2 h3
  obtain ⟨o, ho⟩ : ∃ o : Obj, o = .cells #[.slice (some ⟨n + 1, 0, none⟩) 16 16, .slice (some ⟨n + 1 + 1, 0, none⟩) 12 12] 22 := ⟨_, rfl⟩
  have hr : Row (w3.alloc o) (n + 1 + 1 + 1) 22 #[.slice (some ⟨n + 1, 0, none⟩) 16 16, .slice (some ⟨n + 1 + 1, 0, none⟩) 12 12] := by rw [ho, ← s3]; exact Row.new w3 _ _
  rw [← ho]
  have s4 : (w3.alloc o).heap.size = n + 1 + 1 + 1 + 1 := by simp [s3]
  have k4 : Below w3.heap.size w3 (w3.alloc o) := (Below.refl _ w3).alloc (Nat.le_refl _) _
  have t3 : Below w2.heap.size w2 (w3.alloc o) := k3.trans (k4.mono (by omega))
  have t2 : Below w1.heap.size w1 (w3.alloc o) := k2.trans (t3.mono (by omega))
  have t1 : Below w.heap.size w (w3.alloc o) := k1.trans (t2.mono (by omega))
  have p1 : BytesIn (w3.alloc o) (w3.alloc o).heap.size (some ⟨n, 0, none⟩) 4 [74, 101, 102, 101] := (b1.below t2).more (by omega)
  have p2 := (b2.below t3).more (show w2.heap.size ≤ (w3.alloc o).heap.size by omega)
  have p3 := (b3.below k4).more (show w3.heap.size ≤ (w3.alloc o).heap.size by omega)
  have hp := partsIn_of (ValsIn.of_row (xs := [.slice (some ⟨n + 1, 0, none⟩) 16 16, .slice (some ⟨n + 1 + 1, 0, none⟩) 12 12]) hr hr.lt) (ps := [_, _]) ⟨⟨_, 16, 16, rfl, Nat.le_refl _, by decide, p2⟩, ⟨_, 12, 12, rfl, Nat.le_refl _, by decide, p3⟩, trivial⟩
  refine (hmac_any [74, 101, 102, 101] _ (some ⟨n, 0, none⟩) 4 4 (some ⟨n + 1 + 1 + 1, 0, none⟩) 2 2 (w3.alloc o) p1 (by omega) (by decide) (by omega) (by omega) hp (by decide) (hk.below t1) (hst.below t1)).mono ?_
  rintro e w' ⟨rfl, hb⟩
  exact ⟨by rw [← hmac_jefe]; rfl, t1.trans (hb.mono t1.size)⟩

set_option maxRecDepth 100000 in
theorem tells_any (w : World) (hk : Consts w) (hst : Starts w) :
    Calls Tryd.prog 16 #[] w fun e w' => e = .returned (.bool true) ∧ Below w.heap.size w w' := by
  have HC := Lib.hid hk
  have HS := Lib.hid hst
  clear hk hst
  have cv := @convert_const
  go_enter Tryd.func16, Tryd.ntmps16
  go_wp2_with (first | ((with_reducible show wpList _ _ _ (⟨none, .store _ _ _, _, _, _, _⟩ :: _) _ _); refine wpList_store_sum rfl _ _ rfl _ abcHash rfl rfl rfl rfl ?_) | (go_at_call 12; refine (abc_slice w HC.out HS.out).mono ?_; rintro e w1 ⟨rfl, hb1⟩))
  have hk1 : Consts (w1.alloc (.cells (u8s abcHash).toArray 24)) := (HC.out.below hb1).alloc _
  have hs1 : Starts (w1.alloc (.cells (u8s abcHash).toArray 24)) := (HS.out.below hb1).alloc _
  have ha1 : Row (w1.alloc (.cells (u8s abcHash).toArray 24)) w1.heap.size 24 (u8s abcHash).toArray := Row.new w1 _ _
  have hb2 := hb1.alloc hb1.size (.cells (u8s abcHash).toArray 24)
  have hj := jefe_slice (w1.alloc (.cells (u8s abcHash).toArray 24)) (w1.heap.size + 1) (by simp) hk1 hs1
  refine hj.mono ?_
  rintro e w2 ⟨rfl, hb3⟩
  have ha2 := ha1.below hb3 ha1.lt
  have hb4 := hb2.trans (hb3.mono hb2.size)
  have hsz : w1.heap.size < w2.heap.size := ha2.lt
  have HA := Lib.hid ha2
  have HB := Lib.hid hb4
  clear hk1 hs1 ha1 hb1 hb2 hj hb3 ha2 hb4 HC HS
  have ra : Row (w2.alloc (.cells (u8s jefeHash).toArray 24)) w1.heap.size 24 (u8s abcHash).toArray := HA.out.alloc _
  have rb : Row (w2.alloc (.cells (u8s jefeHash).toArray 24)) w2.heap.size 24 (u8s jefeHash).toArray := Row.new w2 _ _
  have c1 : (convert 22 9 (.slice (some ⟨w1.heap.size, 0, none⟩) 4 32)).run Tryd.prog (w2.alloc (.cells (u8s jefeHash).toArray 24)) = .ok (.string ⟨#[186, 120, 22, 191]⟩) _ := run_str (bytesIn_part ra ra.lt 0 4 (by decide)) 32
  have c2 : (convert 22 9 (.slice (some ⟨w1.heap.size, 28, none⟩) 4 4)).run Tryd.prog (w2.alloc (.cells (u8s jefeHash).toArray 24)) = .ok (.string ⟨#[242, 0, 21, 173]⟩) _ := run_str (bytesIn_part ra ra.lt 28 4 (by decide)) 4
  have c3 : (convert 22 9 (.slice (some ⟨w2.heap.size, 0, none⟩) 4 32)).run Tryd.prog (w2.alloc (.cells (u8s jefeHash).toArray 24)) = .ok (.string ⟨#[91, 220, 193, 70]⟩) _ := run_str (bytesIn_part rb rb.lt 0 4 (by decide)) 32
  have c4 : (convert 22 9 (.slice (some ⟨w2.heap.size, 28, none⟩) 4 4)).run Tryd.prog (w2.alloc (.cells (u8s jefeHash).toArray 24)) = .ok (.string ⟨#[100, 236, 56, 67]⟩) _ := run_str (bytesIn_part rb rb.lt 28 4 (by decide)) 4
  clear ra rb
  go_wp2_with ((with_reducible show wpList _ _ _ (⟨none, .store _ _ _, _, _, _, _⟩ :: _) _ _); refine wpList_store_sum rfl _ _ rfl _ jefeHash rfl rfl rfl rfl ?_)
  go_ret
  exact ⟨rfl, HB.out.alloc HB.out.size _⟩
end Go.Proofs.YtgejndannlfhkaaDoor
