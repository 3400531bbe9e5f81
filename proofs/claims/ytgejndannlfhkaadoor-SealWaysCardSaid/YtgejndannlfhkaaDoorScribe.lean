/- The walks of scribe's Writer: Byte, Two, Four, Eight, Text, Done of a writer that has laid bytes without an error. No condition but sizes. -/
import Derived.Test.YtgejndannlfhkaaDoorClone
import Derived.Lib.ConvBytes
namespace Go.Proofs.YtgejndannlfhkaaDoor
open Go Go.RowKit Go.Shelf

/-- A number in so many bytes, the highest first. -/
def be : Nat → Nat → List UInt8
  | 0, _ => []
  | k + 1, n => be k (n / 256) ++ [UInt8.ofNat n]
theorem be_length : ∀ k n, (be k n).length = k
  | 0, _ => rfl
  | k + 1, n => by rw [be, List.length_append, be_length k]; rfl
theorem be_split (k : Nat) : ∀ j n, be (k + j) n = be k (n / 256 ^ j) ++ be j n
  | 0, n => by simp [be]
  | j + 1, n => by
    rw [← Nat.add_assoc, be, be_split k j, be, List.append_assoc, Nat.div_div_eq_div_mul, ← Nat.pow_succ']
theorem be_mod : ∀ k n, be k (n % 256 ^ k) = be k n
  | 0, _ => rfl
  | k + 1, n => by
    rw [be, be, ← be_mod k (n / 256)]
    have e1 : n % 256 ^ (k + 1) / 256 = n / 256 % 256 ^ k := by rw [Nat.pow_succ', Nat.mod_mul_right_div_self]
    have e2 : UInt8.ofNat (n % 256 ^ (k + 1)) = UInt8.ofNat n := by
      apply UInt8.toNat_inj.1
      simp only [UInt8.toNat_ofNat']
      rw [Nat.pow_succ, Nat.mod_mul_left_mod]
    rw [e1, e2]

theorem OwnB.other {w : World} {base : Nat} {v : Value} {l : List UInt8} (h : OwnB w base v l) {p : Addr} (hp : v.ownBlock ≠ some p.block) (u : Value) : OwnB (w.setCell p u) base v l :=
  ownsRow_setCell_other h hp u

/-- Block g is a writer that has laid the bytes l, without an error; what it keeps lies from block base on. -/
def Writ (w : World) (base g : Nat) (l : List UInt8) : Prop :=
  base ≤ g ∧ ∃ A c, Row w g 80 #[.slice A l.length c, .int .i64 0] ∧ OwnB w base (.slice A l.length c) l ∧ (Value.slice A l.length c).ownBlock ≠ some g

section
variable {w w' : World} {base g : Nat} {l : List UInt8}
theorem Writ.lt (h : Writ w base g l) : g < w.heap.size := by obtain ⟨_, A, c, h, _⟩ := h; exact h.lt
theorem Writ.below (h : Writ w base g l) (hb : Below w.heap.size w w') : Writ w' base g l := by
  obtain ⟨h0, A, c, h1, h2, h3⟩ := h
  exact ⟨h0, A, c, h1.below hb h1.lt, h2.below hb, h3⟩
theorem Writ.alloc (h : Writ w base g l) (o : Obj) : Writ (w.alloc o) base g l := h.below ((Below.refl _ w).alloc (Nat.le_refl _) o)
theorem Writ.new (w : World) : Writ (w.alloc (.cells #[.slice none 0 0, .int .i64 0] 80)) w.heap.size w.heap.size [] :=
  ⟨Nat.le_refl _, none, 0, Row.new _ _ _, OwnB.nil _ _, by simp [Value.ownBlock]⟩
end

set_option maxRecDepth 100000 in
theorem byte_any (pre l : List UInt8) (base g n c B : Nat) (A : Option Addr) (w : World) (hw : Writ w base g pre) (hl : BytesIn w B A n l) (hlen : pre.length + n ≤ 140737488355328) :
    Calls Tryd.prog 59 #[.pointer (some ⟨g, 0, none⟩), .slice A n c] w fun e w' => e = .returned (.pointer (some ⟨g, 0, none⟩)) ∧ Writ w' base g (pre ++ l) ∧ Below base w w' := by
  obtain ⟨hbg, A0, c0, hr, ho, hne⟩ := hw
  have hg := hr.lt
  have c0' : w.cell? ⟨g, 0, none⟩ = some (.slice A0 pre.length c0) := hr.cell 0
  have c1' : w.cell? ⟨g, 1, none⟩ = some (.int .i64 0) := hr.cell 1
  have HR := Lib.hid hr
  have HO := Lib.hid ho
  have HL := Lib.hid hl
  have HNE := Lib.hid hne
  clear hr ho hl hne
  go_enter Tryd.func59, Tryd.ntmps59
  go_wp2_with (at_builtin; go_loud (refine wpList_append_bytes (v := .slice A0 pre.length c0) (l := pre) rfl (.tmp 18) (.tmp 19) rfl rfl HO.out rfl HL.out hlen (by omega) ?_); intro A5 c5 w5 hown5 hgrow5 hblk5; have hr5 : Row w5 g 80 #[.slice A0 pre.length c0, .int .i64 0] := HR.out.of_block (hgrow5.out.block g hg (fun e => HNE.out e.symm)); have c5' : w5.cell? ⟨g, 0, none⟩ = some (.slice A0 pre.length c0) := hr5.cell 0; have f5 : w5.frozen? ⟨g, 0, none⟩ = false := hr5.free 0; have HR5 := Lib.hid hr5; clear hr5)
  go_ret
  have hn : n = l.length := HL.out.1.symm
  have hown := hown5.out
  have hsz : g < w5.heap.size := HR5.out.lt
  have hne5 : (Value.slice A5 (pre.length + n) c5).ownBlock ≠ some g := by
    rcases hblk5.out with h | h
    · rw [h]; exact HNE.out
    · rw [h]; intro e; injection e with e; omega
  refine ⟨rfl, ⟨hbg, A5, c5, ?_, ?_, ?_⟩, ?_⟩
  · rw [List.length_append, ← hn]
    exact HR5.out.set 0 _
  · rw [List.length_append, ← hn]
    exact OwnB.other hown hne5 _
  · rw [List.length_append, ← hn]; exact hne5
  · exact (below_of_grown (Below.refl _ w) hgrow5.out (by omega) (fun k hk => (HO.out.lt k hk).1)).setCell (p := ⟨g, 0, none⟩) hbg _

/-- A row of bytes, just made. -/
theorem bytes_new (w : World) (l : List UInt8) (C : Array Value) (hC : C = (u8s l).toArray) (n : Nat) (hn : l.length = n) : BytesIn (w.alloc (.cells C 5)) (w.heap.size + 1) (some ⟨w.heap.size, 0, none⟩) n l := by
  subst hC hn
  exact ⟨rfl, fun _ => ⟨w.heap.size, 0, rfl, by omega, fun i hi => by
    rw [Nat.zero_add, (Row.new w 5 (u8s l).toArray).cell i, List.getElem?_toArray, u8s_get l i hi]⟩⟩

/-- A string's bytes, just made. -/
theorem bytesWorld_below (w : World) (e : TypeId) (s : ByteArray) : Below w.heap.size w (Lib.bytesWorld w e s) := by
  exact ⟨rfl, rfl, rfl, by rw [Lib.bytesWorld_size]; omega, fun k hk => Lib.bytesWorld_at_old w e s k hk⟩
theorem bytesWorld_bytes (w : World) (s : ByteArray) : BytesIn (Lib.bytesWorld w 5 s) (Lib.bytesWorld w 5 s).heap.size (some ⟨w.heap.size, 0, none⟩) s.size s.data.toList :=
  ⟨by simp, fun _ => ⟨w.heap.size, 0, rfl, by rw [Lib.bytesWorld_size]; omega, fun i hi => by
    rw [Nat.zero_add, Lib.bytesWorld_cell w _ s i hi]; rfl⟩⟩
theorem run_string_bytes (s : ByteArray) (w : World) : (convert 9 22 (.string s)).run Tryd.prog w = .ok (.slice (some ⟨w.heap.size, 0, none⟩) s.size (grownCap w s.size 0 5)) (Lib.bytesWorld w 5 s) :=
  Lib.run_convert_string_bytes w _ _ _ s Tryd.underlying9 Tryd.underlying22 Tryd.underlying5

set_option maxRecDepth 100000 in
theorem two_any (pre : List UInt8) (n : Nat) (z : Int) (hz : z = ((n % 65536 : Nat) : Int)) (base g : Nat) (w : World) (hw : Writ w base g pre) (hlen : pre.length + 2 ≤ 140737488355328) :
    Calls Tryd.prog 72 #[.pointer (some ⟨g, 0, none⟩), .int .u16 z] w fun e w' => e = .returned (.pointer (some ⟨g, 0, none⟩)) ∧ Writ w' base g (pre ++ be 2 n) ∧ Below base w w' := by
  have z0 : 0 ≤ z := by omega
  have z1 : z < 65536 := by omega
  have hb := byte_any pre (be 2 n) base g 2 2 _ _ _ (hw.alloc (.cells #[.int .u8 (z / 256), .int .u8 (z % 256)] 5)) (bytes_new w (be 2 n) #[.int .u8 (z / 256), .int .u8 (z % 256)] (by
    have e1 : z / 256 = n8 (UInt8.ofNat (n / 256)) := by rw [← n8_ofNat]; omega
    have e2 : z % 256 = n8 (UInt8.ofNat n) := by rw [← n8_ofNat]; omega
    rw [e1, e2]; rfl) 2 rfl) (by omega)
  have hbg := hw.1
  have hlt := hw.lt
  have HB := Lib.hid hb
  clear hz hw hb
  go_enter Tryd.func72, Tryd.ntmps72
  go_wp2_with (go_at_call 59; refine HB.out.mono ?_; rintro e w1 ⟨rfl, hw1, hb1⟩)
  go_ret
  exact ⟨rfl, hw1, ((Below.refl _ w).alloc (by omega) _).trans hb1⟩
set_option maxRecDepth 100000 in
theorem four_any (pre : List UInt8) (n : Nat) (z : Int) (hz : z = ((n % 4294967296 : Nat) : Int)) (base g : Nat) (w : World) (hw : Writ w base g pre) (hlen : pre.length + 4 ≤ 140737488355328) :
    Calls Tryd.prog 45 #[.pointer (some ⟨g, 0, none⟩), .int .u32 z] w fun e w' => e = .returned (.pointer (some ⟨g, 0, none⟩)) ∧ Writ w' base g (pre ++ be 4 n) ∧ Below base w w' := by
  have z0 : 0 ≤ z := by omega
  have z1 : z < 4294967296 := by omega
  have h1 := two_any pre (n / 65536) (z / 65536) (by omega) base g w hw (by omega)
  have h2 := fun w1 (hw1 : Writ w1 base g (pre ++ be 2 (n / 65536))) => two_any _ n (z % 65536) (by omega) base g w1 hw1 (by rw [List.length_append, be_length]; omega)
  rw [show be 4 n = be 2 (n / 65536) ++ be 2 n from be_split 2 2 n, ← List.append_assoc]
  have H1 := Lib.hid h1
  have H2 := Lib.hid h2
  clear hz hw h1 h2
  go_enter Tryd.func45, Tryd.ntmps45
  go_wp2_with fail
  refine H1.out.mono ?_
  rintro e w1 ⟨rfl, hw1, hb1⟩
  have H3 := Lib.hid (H2.out w1 hw1)
  clear hw1
  go_wp2_with fail
  refine H3.out.mono ?_
  rintro e w2 ⟨rfl, hw2, hb2⟩
  have HW2 := Lib.hid hw2
  clear hw2
  go_wp2_with fail
  go_ret
  exact ⟨rfl, HW2.out, hb1.trans hb2⟩
set_option maxRecDepth 100000 in
theorem eight_any (pre : List UInt8) (n : Nat) (M : BitVec 64) (hz : M.toNat = n % 18446744073709551616) (base g : Nat) (w : World) (hw : Writ w base g pre) (hlen : pre.length + 8 ≤ 140737488355328) :
    Calls Tryd.prog 70 #[.pointer (some ⟨g, 0, none⟩), .int .u64 (n64 M)] w fun e w' => e = .returned (.pointer (some ⟨g, 0, none⟩)) ∧ Writ w' base g (pre ++ be 8 n) ∧ Below base w w' := by
  have hbd := n64_bd M
  obtain ⟨z, hzz⟩ : ∃ z, z = n64 M := ⟨_, rfl⟩
  rw [← hzz] at hbd ⊢
  obtain ⟨z0, z1⟩ := hbd
  have hz' : z = ((n % 18446744073709551616 : Nat) : Int) := by rw [hzz, ← hz]; rfl
  have h1 := four_any pre (n / 4294967296) (z / 4294967296) (by omega) base g w hw (by omega)
  have h2 := fun w1 (hw1 : Writ w1 base g (pre ++ be 4 (n / 4294967296))) => four_any _ n (z % 4294967296) (by omega) base g w1 hw1 (by rw [List.length_append, be_length]; omega)
  rw [show be 8 n = be 4 (n / 4294967296) ++ be 4 n from be_split 4 4 n, ← List.append_assoc]
  have H1 := Lib.hid h1
  have H2 := Lib.hid h2
  clear hz hw h1 h2 hz' hzz
  go_enter Tryd.func70, Tryd.ntmps70
  go_wp2_with fail
  refine H1.out.mono ?_
  rintro e w1 ⟨rfl, hw1, hb1⟩
  have H3 := Lib.hid (H2.out w1 hw1)
  clear hw1
  go_wp2_with fail
  refine H3.out.mono ?_
  rintro e w2 ⟨rfl, hw2, hb2⟩
  have HW2 := Lib.hid hw2
  clear hw2
  go_wp2_with fail
  go_ret
  exact ⟨rfl, HW2.out, hb1.trans hb2⟩
set_option maxRecDepth 100000 in
theorem text_any (pre : List UInt8) (s : ByteArray) (base g : Nat) (w : World) (hw : Writ w base g pre) (hs : s.size ≤ 65535) (hlen : pre.length + s.size + 2 ≤ 140737488355328) :
    Calls Tryd.prog 58 #[.pointer (some ⟨g, 0, none⟩), .string s] w fun e w' => e = .returned (.pointer (some ⟨g, 0, none⟩)) ∧ Writ w' base g (pre ++ (be 2 s.size ++ s.data.toList)) ∧ Below base w w' := by
  have hbg := hw.1
  have cv := run_string_bytes s
  have b := byte_any pre [] base g 0 0 w.heap.size none w hw (BytesIn.nil _ _ _) (by omega)
  have b2 := fun w1 (hw1 : Writ w1 base g (pre ++ [])) => two_any pre s.size (s.size : Int) (by omega) base g w1 (by rwa [List.append_nil] at hw1) (by omega)
  have b3 := fun w1 (hw1 : Writ w1 base g (pre ++ be 2 s.size)) => byte_any (pre ++ be 2 s.size) s.data.toList base g s.size (grownCap w1 s.size 0 5) _ _ _ (hw1.below (bytesWorld_below w1 _ s)) (bytesWorld_bytes w1 s) (by rw [List.length_append, be_length]; omega)
  rw [← List.append_assoc]
  have HBY := Lib.hid b
  have H2 := Lib.hid b2
  have H3 := Lib.hid b3
  have s1 : (s.size : Int) ≤ 65535 := by omega
  clear b b2 b3 hw
  go_enter Tryd.func58, Tryd.ntmps58
  go_wp2_with fail
  refine HBY.out.mono ?_
  rintro e w1 ⟨rfl, hw1, hb1⟩
  have H4 := Lib.hid (H2.out w1 hw1)
  clear hw1 H2 HBY
  go_wp2_with fail
  refine H4.out.mono ?_
  rintro e w2 ⟨rfl, hw2, hb2⟩
  have H5 := Lib.hid (H3.out w2 hw2)
  have hlt := hw2.lt
  clear hw2 H3 H4
  go_wp2_with fail
  refine H5.out.mono ?_
  rintro e w3 ⟨rfl, hw3, hb3⟩
  have HW3 := Lib.hid hw3
  clear hw3 H5
  go_wp2_with fail
  go_ret
  exact ⟨rfl, HW3.out, hb1.trans (hb2.trans (((bytesWorld_below w2 _ s).mono (by omega)).trans hb3))⟩
set_option maxRecDepth 100000 in
theorem done_any (l : List UInt8) (base g : Nat) (w : World) (hw : Writ w base g l) (hlen : l.length ≤ 1099511627776) :
    Calls Tryd.prog 46 #[.pointer (some ⟨g, 0, none⟩)] w fun e w' => ∃ A c, e = .returned (.tuple #[.slice A l.length c, .int .i64 0]) ∧ OwnB w' base (.slice A l.length c) l ∧ Below base w w' := by
  have b := byte_any l [] base g 0 0 w.heap.size none w hw (BytesIn.nil _ _ _) (by omega)
  rw [List.append_nil] at b
  have HBY := Lib.hid b
  clear b hw
  go_enter Tryd.func46, Tryd.ntmps46
  go_wp2_with (go_at_call 59; refine HBY.out.mono ?_; rintro e w1 ⟨rfl, hw1, hb1⟩; obtain ⟨hbg, A0, c0, hr, ho, hne⟩ := hw1; have c0' : w1.cell? ⟨g, 0, none⟩ = some (.slice A0 l.length c0) := hr.cell 0; have c1' : w1.cell? ⟨g, 1, none⟩ = some (.int .i64 0) := hr.cell 1; have HR := Lib.hid hr; have HO := Lib.hid ho; clear hr ho hne)
  have hbs : base ≤ w1.heap.size := by have := HR.out.lt; omega
  refine (cloneB_any A0 l.length c0 _ l w1 HO.out.bytes (Nat.le_refl _) hlen).mono ?_
  rintro e w2 ⟨A2, c2, rfl, hown2, hb2⟩
  have HO2 := Lib.hid hown2
  clear hown2
  go_wp2_with fail
  go_ret2
  exact ⟨A2, c2, rfl, HO2.out.lower hbs, hb1.trans (hb2.mono hbs)⟩
end Go.Proofs.YtgejndannlfhkaaDoor
