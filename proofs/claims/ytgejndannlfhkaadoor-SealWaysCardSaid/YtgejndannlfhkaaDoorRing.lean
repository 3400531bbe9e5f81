/- The walks of seal.New and of the ring's methods key, Hello, Token. No condition but sizes. -/
import Derived.Test.YtgejndannlfhkaaDoorWakes
import Derived.Test.YtgejndannlfhkaaDoorSealTag
namespace Go.Proofs.YtgejndannlfhkaaDoor
open Go Go.RowKit Go.Shelf

/-- Block g is a ring of the secret sec; it and its bytes lie from block base on. -/
def RingAt (w : World) (base g : Nat) (sec : List UInt8) : Prop :=
  base ≤ g ∧ ∃ A c, Row w g 112 #[.slice A sec.length c] ∧ OwnB w base (.slice A sec.length c) sec
section
variable {w w' : World} {base g : Nat} {sec : List UInt8}
theorem RingAt.lt (h : RingAt w base g sec) : g < w.heap.size := by obtain ⟨_, A, c, h, _⟩ := h; exact h.lt
theorem RingAt.below (h : RingAt w base g sec) (hb : Below w.heap.size w w') : RingAt w' base g sec := by
  obtain ⟨h0, A, c, h1, h2⟩ := h
  exact ⟨h0, A, c, h1.below hb h1.lt, h2.below hb⟩
theorem RingAt.set (h : RingAt w base g sec) {p : Addr} (hp : p.block < base) (v : Value) : RingAt (w.setCell p v) base g sec := by
  obtain ⟨h0, A, c, h1, h2⟩ := h
  refine ⟨h0, A, c, h1.other (by omega) v, h2.other (fun e => ?_) v⟩
  have := (h2.lt _ e).1
  omega
end

set_option maxRecDepth 100000 in
theorem ringNew_yes (sec : List UInt8) (A : Option Addr) (n c : Nat) (w : World) (hs : BytesIn w w.heap.size A n sec) (h1 : 1 ≤ n) (h2 : n ≤ 64) :
    Calls Tryd.prog 37 #[.slice A n c] w fun e w' => ∃ g, e = .returned (.tuple #[.pointer (some ⟨g, 0, none⟩), .int .i64 0]) ∧ RingAt w' w.heap.size g sec ∧ Below w.heap.size w w' := by
  have hnl := hs.1
  have hm := fun w => may_yes A n c h1 h2 w
  have hcl := cloneB_any A n c _ sec w hs (Nat.le_refl _) (by omega)
  have HM := Lib.hid hm
  have HCL := Lib.hid hcl
  clear hm hcl hs
  go_enter Tryd.func37, Tryd.ntmps37
  go_wp2_with (go_at_call 57; refine (HM.out _).mono ?_; rintro e w' ⟨rfl, rfl⟩)
  refine HCL.out.mono ?_
  rintro e w1 ⟨A1, c1, rfl, hown1, hb1⟩
  have HO1 := Lib.hid hown1
  have HB1 := Lib.hid hb1
  clear hown1 hb1
  go_wp2_with fail
  go_ret2
  refine ⟨w1.heap.size, rfl, ⟨HB1.out.size, A1, c1, ?_, ?_⟩, HB1.out.alloc HB1.out.size _⟩
  · rw [hnl]; exact Row.new w1 _ _
  · rw [hnl]; exact HO1.out.alloc _
theorem ringNew_no (A : Option Addr) (n c : Nat) (w : World) (h : n = 0 ∨ 64 < n) :
    Calls Tryd.prog 37 #[.slice A n c] w fun e w' => e = .returned (.tuple #[.pointer none, .int .i64 1]) ∧ w' = w := by
  have hm := fun w => may_no A n c h w
  have HM := Lib.hid hm
  clear hm h
  go_enter Tryd.func37, Tryd.ntmps37
  go_wp2_with (go_at_call 57; refine (HM.out _).mono ?_; rintro e w' ⟨rfl, rfl⟩)
  go_ret2
  exact ⟨rfl, rfl⟩

set_option maxRecDepth 100000 in
set_option maxHeartbeats 2000000 in
theorem key_any (sec : List UInt8) (base g : Nat) (s : ByteArray) (ps : List (List UInt8)) (PA : Option Addr) (pn pc : Nat) (w : World) (hr : RingAt w base g sec) (h1 : 1 ≤ sec.length) (h2 : sec.length ≤ 64) (hs : s.size ≤ 65535)
    (hp : PartsIn w w.heap.size PA pn ps) (hlen : (laidB s ps).length ≤ 1000000) (hpn : pn ≤ 1000000) (hk : Consts w) (hst : Starts w) :
    Calls Tryd.prog 65 #[.pointer (some ⟨g, 0, none⟩), .string s, .slice PA pn pc] w fun e w' => e = .returned (.agg (u8s (hmac sec (laidB s ps))).toArray) ∧ Below w.heap.size w w' := by
  obtain ⟨hbg, A, c, hrow, hown⟩ := hr
  have hgl := hrow.lt
  obtain ⟨W0, hW0⟩ : ∃ W0 : World, W0 = w.alloc (.cells (u8s (zeros 32)).toArray 43) := ⟨_, rfl⟩
  have hb0 : Below w.heap.size w W0 := by rw [hW0]; exact (Below.refl _ w).alloc (Nat.le_refl _) _
  have hr0 : Row W0 w.heap.size 43 (u8s (zeros 32)).toArray := by rw [hW0]; exact Row.new w _ _
  have hs0 : W0.heap.size = w.heap.size + 1 := by rw [hW0]; simp
  have c0 : W0.cell? ⟨g, 0, none⟩ = some (.slice A sec.length c) := (hrow.below hb0 hgl).cell 0
  obtain ⟨hc1, hc2⟩ : sec.length ≤ c ∧ c ≤ maxLen := by
    obtain ⟨A', c', e, h1, h2⟩ := hown.form
    injection e with e1 e2 e3
    subst e3; exact ⟨h1, h2⟩
  have hd := derive_ok sec A sec.length c s ps PA pn pc W0 ((hown.bytes.below hb0).more hb0.size) h1 h2 hc1 hc2 hs ((hp.below hb0).more hb0.size) hlen hpn (hk.below hb0) (hst.below hb0)
  obtain ⟨out, hout⟩ : ∃ out, out = hmac sec (laidB s ps) := ⟨_, rfl⟩
  have hol : out.length = 32 := by rw [hout]; exact sha_length _
  rw [← hout] at hd ⊢
  have HI := Lib.hid (info_key out hol)
  have HZ := Lib.hid (zeros32_size out hol)
  have HD := Lib.hid hd
  have HR0 := Lib.hid hr0
  have HB0 := Lib.hid hb0
  have HW0 := Lib.hid hW0
  have HS0 := Lib.hid hs0
  clear hd hr0 hb0 hW0 hs0 hrow hown hp hk hst hout hlen
  go_enter Tryd.func65, Tryd.ntmps65
  go_upto_region 1 with (fail)
  change Code.wp _ _ _ _ (w.alloc (.cells (u8s (zeros 32)).toArray 43))
  rw [← HW0.out]
  go_wp2_with fail
  refine HD.out.mono ?_
  rintro e w1 ⟨rfl, hb1⟩
  have hb1' : Below w.heap.size w w1 := HB0.out.trans (hb1.mono (by have := HS0.out; omega))
  have hr1 : Row w1 w.heap.size 43 (u8s (zeros 32)).toArray := HR0.out.below hb1 (by have := HS0.out; omega)
  have HB1 := Lib.hid hb1'
  have HR1 : Hid (Row (w1.alloc (.cells (u8s out).toArray 43)) w.heap.size 43 (u8s (zeros 32)).toArray) := hr1.alloc _
  have HRN : Hid (Row (w1.alloc (.cells (u8s out).toArray 43)) w1.heap.size 43 (u8s out).toArray) := Row.new w1 _ _
  clear hb1 hb1' hr1 HR0 HB0 HW0
  go_wp2_with (first
    | ((with_reducible show wpList _ _ _ (⟨none, .store _ (.tmp 7) _, _, _, _, _⟩ :: _) _ _); go_loud (refine wpList_store_new rfl 43 _ _ rfl 43 _ (u8s out).toArray rfl rfl HI.out HZ.out (u8s_all _) ?_))
    | ((with_reducible show wpList _ _ _ (⟨some 22, _, _, _, _, _⟩ :: _) _ _); go_loud (refine wpList_load_row rfl 43 _ rfl w1.heap.size rfl 43 _ (0, 0) _ HRN.out Tryd.underlying43 rfl HI.out ?_))
    | ((with_reducible show wpList _ _ _ (⟨none, .store _ (.tmp 6) _, _, _, _, _⟩ :: _) _ _); go_loud (refine wpList_store_row rfl 43 _ _ rfl w.heap.size (u8s out).toArray rfl rfl 43 _ HR1.out HI.out HZ.out (u8s_all _) ?_)))
  exact bodyPost_ret (results_cell_row rfl _ _ w.heap.size 43 _ (0, 0) _ rfl (Row.setRowSame HR1.out _) Tryd.underlying43 rfl HI.out) rfl ⟨rfl, below_setRow (HB1.out.alloc HB1.out.size _) (Nat.le_refl _) _⟩

set_option maxRecDepth 100000 in
theorem hello_any (sec : List UInt8) (base g : Nat) (w : World) (hr : RingAt w base g sec) (h1 : 1 ≤ sec.length) (h2 : sec.length ≤ 64) (hk : Consts w) (hst : Starts w) :
    Calls Tryd.prog 39 #[.pointer (some ⟨g, 0, none⟩)] w fun e w' => e = .returned (.agg (u8s (hmac sec (laidB hello []))).toArray) ∧ Below w.heap.size w w' := by
  obtain ⟨W0, hW0⟩ : ∃ W0 : World, W0 = w.alloc (.cells (u8s (zeros 32)).toArray 43) := ⟨_, rfl⟩
  have hb0 : Below w.heap.size w W0 := by rw [hW0]; exact (Below.refl _ w).alloc (Nat.le_refl _) _
  have hr0 : Row W0 w.heap.size 43 (u8s (zeros 32)).toArray := by rw [hW0]; exact Row.new w _ _
  have hs0 : W0.heap.size = w.heap.size + 1 := by rw [hW0]; simp
  have hd := key_any sec base g hello [] none 0 0 W0 (hr.below hb0) h1 h2 (by decide) ⟨rfl, fun h => absurd h (by omega)⟩ (by rw [laid_hello]; decide) (by decide) (hk.below hb0) (hst.below hb0)
  obtain ⟨out, hout⟩ : ∃ out, out = hmac sec (laidB hello []) := ⟨_, rfl⟩
  have hol : out.length = 32 := by rw [hout]; exact sha_length _
  rw [← hout] at hd ⊢
  have HI := Lib.hid (info_key out hol)
  have HZ := Lib.hid (zeros32_size out hol)
  have HD := Lib.hid hd
  have HR0 := Lib.hid hr0
  have HB0 := Lib.hid hb0
  have HW0 := Lib.hid hW0
  have HS0 := Lib.hid hs0
  clear hd hr0 hb0 hW0 hs0 hr hk hst hout
  go_enter Tryd.func39, Tryd.ntmps39
  go_upto_region 1 with (fail)
  change Code.wp _ _ _ _ (w.alloc (.cells (u8s (zeros 32)).toArray 43))
  rw [← HW0.out]
  go_wp2_with fail
  refine HD.out.mono ?_
  rintro e w1 ⟨rfl, hb1⟩
  have HB1 : Hid (Below w.heap.size w w1) := HB0.out.trans (hb1.mono (by have := HS0.out; omega))
  have HR1 : Hid (Row w1 w.heap.size 43 (u8s (zeros 32)).toArray) := HR0.out.below hb1 (by have := HS0.out; omega)
  clear hb1 HR0 HB0 HW0
  go_wp2_with ((with_reducible show wpList _ _ _ (⟨none, .store _ _ _, _, _, _, _⟩ :: _) _ _); go_loud (refine wpList_store_row rfl 43 _ _ rfl w.heap.size (u8s out).toArray rfl rfl 43 _ HR1.out HI.out HZ.out (u8s_all _) ?_))
  exact bodyPost_ret (results_cell_row rfl _ _ w.heap.size 43 _ (0, 0) _ rfl (Row.setRowSame HR1.out _) Tryd.underlying43 rfl HI.out) rfl ⟨rfl, below_setRow HB1.out (Nat.le_refl _) _⟩

def tokenS : ByteArray := { data := #[116, 111, 107, 101, 110] }
theorem laid_token_length : (laidB tokenS []).length ≤ 1000000 := by decide +kernel
/-- The token of a secret, a session and an epoch. -/
def tokenOf (sec : List UInt8) (s e : Nat) : Nat := unbe ((hmac (hmac sec (laidB tokenS [])) (be 4 s ++ be 4 e)).take 8)

set_option maxRecDepth 100000 in
set_option maxHeartbeats 2000000 in
theorem token_any (sec : List UInt8) (base g s e : Nat) (w : World) (hr : RingAt w base g sec) (h1 : 1 ≤ sec.length) (h2 : sec.length ≤ 64) (hs : s < 4294967296) (he : e < 4294967296) (hk : Consts w) (hst : Starts w) :
    Calls Tryd.prog 42 #[.pointer (some ⟨g, 0, none⟩), .int .u32 (s : Int), .int .u32 (e : Int)] w fun e' w' => e' = .returned (.int .u64 (tokenOf sec s e : Nat)) ∧ Below w.heap.size w w' := by
  obtain ⟨hbg, A, c, hrow, hown⟩ := hr
  have hr' : RingAt w base g sec := ⟨hbg, A, c, hrow, hown⟩
  have hgl := hrow.lt
  have c0 : w.cell? ⟨g, 0, none⟩ = some (.slice A sec.length c) := hrow.cell 0
  have hm := fun w => may_yes A sec.length c h1 h2 w
  have hwr : Writ (w.alloc (.cells #[.slice none 0 0, .int .i64 0] 80)) w.heap.size w.heap.size [] := Writ.new w
  have hf1 := four_any [] s s (by omega) _ _ _ hwr (by simp)
  have HM := Lib.hid hm
  have HF1 := Lib.hid hf1
  have HR := Lib.hid hr'
  have HC := Lib.hid hk
  have HS := Lib.hid hst
  clear hrow hown hr' hm hwr hf1 hk hst
  go_enter Tryd.func42, Tryd.ntmps42
  go_wp2_with (go_at_call 57; refine (HM.out _).mono ?_; rintro e2 w' ⟨rfl, hq⟩; have hq2 := hq.symm; subst hq2; clear hq)
  refine HF1.out.mono ?_
  rintro e' w1 ⟨rfl, hw1, hb1⟩
  rw [List.nil_append] at hw1
  have HF2 := Lib.hid (four_any (be 4 s) e e (by omega) _ _ w1 hw1 (by rw [be_length]; omega))
  have HB1 := Lib.hid hb1
  clear hw1 hb1 HF1
  go_wp2_with fail
  refine HF2.out.mono ?_
  rintro e' w2 ⟨rfl, hw2, hb2⟩
  have HDN := Lib.hid (done_any _ _ _ w2 hw2 (by rw [List.length_append, be_length, be_length]; omega))
  have HB2 := Lib.hid hb2
  clear hw2 hb2 HF2
  go_wp2_with fail
  refine HDN.out.mono ?_
  rintro e' w3 ⟨A3, c3, rfl, hown3, hb3⟩
  have hb3w : Below w.heap.size w w3 := ((Below.refl _ w).alloc (Nat.le_refl _) _).trans (HB1.out.trans (HB2.out.trans hb3))
  have hkey := key_any sec base g tokenS [] none 0 0 w3 (HR.out.below hb3w) h1 h2 (by decide) ⟨rfl, fun h => absurd h (by omega)⟩ laid_token_length (by decide) (HC.out.below hb3w) (HS.out.below hb3w)
  have htl : (be 4 s ++ be 4 e).length = 8 := by rw [List.length_append, be_length, be_length]
  rw [htl] at hown3 ⊢
  obtain ⟨hc1, hc2⟩ : 8 ≤ c3 ∧ c3 ≤ maxLen := by
    obtain ⟨A', c', e, k1, k2⟩ := hown3.form
    injection e with e1 e2 e3
    subst e3; rw [htl] at k1; exact ⟨k1, k2⟩
  obtain ⟨kk, hkk⟩ : ∃ kk, kk = hmac sec (laidB tokenS []) := ⟨_, rfl⟩
  have hkl : kk.length = 32 := by rw [hkk]; exact sha_length _
  rw [← hkk] at hkey
  have HKEY := Lib.hid hkey
  have HKK := Lib.hid hkk
  have HB3 := Lib.hid hb3w
  have HBY : Hid (BytesIn w3 w3.heap.size A3 8 (be 4 s ++ be 4 e)) := hown3.bytes
  clear hown3 hb3 hb3w hkey hkk HDN HB1 HB2
  go_wp2_with fail
  refine HKEY.out.mono ?_
  rintro e' w4 ⟨rfl, hb4⟩
  have hb4w : Below w.heap.size w w4 := HB3.out.trans (hb4.mono HB3.out.size)
  have htag := tag_any kk (be 4 s ++ be 4 e) hkl A3 8 c3 w4 ((HBY.out.below hb4).more hb4.size) hc1 hc2 (by omega) (HC.out.below hb4w) (HS.out.below hb4w)
  rw [HKK.out] at htag
  have HTAG := Lib.hid htag
  have HB4 := Lib.hid hb4w
  clear htag hb4 hb4w HKEY
  rw [HKK.out]
  go_wp2_with fail
  refine HTAG.out.mono ?_
  rintro e' w5 ⟨rfl, hb5⟩
  have HB5 := Lib.hid hb5
  clear hb5 HTAG
  go_wp2_with fail
  go_ret
  exact ⟨rfl, HB4.out.trans (HB5.out.mono HB4.out.size)⟩
end Go.Proofs.YtgejndannlfhkaaDoor
