/- The walks of seal.may and seal.Derive. No condition but sizes. -/
import Derived.Test.YtgejndannlfhkaaDoorScribe
import Derived.Test.YtgejndannlfhkaaDoorHmac
import Derived.Test.YtgejndannlfhkaaDoorQuiet
import Derived.Laws.ResultCell
namespace Go.Proofs.YtgejndannlfhkaaDoor
open Go Go.RowKit Go.Shelf

/-- The two results of a function whose first one is a row of bytes in memory. -/
theorem results_key {fn : Func} {p u : Tmp} {ty : TypeId} (h : fn.results = #[.cell p ty, .tmp u]) (tmps : Array Value) (w : World) (g : Nat) (t : TypeId) (cs : Array Value) (n : Nat) (e : TypeId)
    (hp : tmps.getD p undef = .pointer (some ⟨g, 0, none⟩)) (hg : Row w g t cs)
    (hu : Tryd.prog.underlying ty = some (.array n e)) (hi : (Tryd.prog.info? ty).map (·.size) = some cs.size) :
    (results fn tmps).run Tryd.prog w = .ok (.tuple #[.agg cs, tmps.getD u undef]) w := by
  rw [results_cell_tmp h, hp]
  simp only [asAddr, Sem.run_pure, Result.andThen_ok, run_loadVar_row w g t ty cs (0, 0) _ hg hu rfl hi]

theorem info_key (l : List UInt8) (h : l.length = 32) : (Tryd.prog.info? 43).map (·.size) = some (u8s l).toArray.size := by
  rw [List.size_toArray, u8s_length, h]; kernel_rfl
theorem zeros32_size (l : List UInt8) (h : l.length = 32) : (u8s (zeros 32)).toArray.size = (u8s l).toArray.size := by
  rw [List.size_toArray, List.size_toArray, u8s_length, u8s_length, h]; rfl

theorem may_yes (A : Option Addr) (n c : Nat) (h1 : 1 ≤ n) (h2 : n ≤ 64) (w : World) : Calls Tryd.prog 57 #[.slice A n c] w fun e w' => e = .returned (.bool true) ∧ w' = w := by
  have b1 : (0 : Int) < n := by omega
  have b2 : (n : Int) ≤ 64 := by omega
  go_enter Tryd.func57, Tryd.ntmps57
  go_wp2_with fail
  go_ret
  exact ⟨rfl, rfl⟩
theorem may_no (A : Option Addr) (n c : Nat) (h : n = 0 ∨ 64 < n) (w : World) : Calls Tryd.prog 57 #[.slice A n c] w fun e w' => e = .returned (.bool false) ∧ w' = w := by
  rcases h with h | h
  · subst h
    go_enter Tryd.func57, Tryd.ntmps57
    go_wp2_with fail
    go_ret
    exact ⟨rfl, rfl⟩
  · have b1 : (0 : Int) < n := by omega
    have b2 : (64 : Int) < n := by omega
    have b3 : decide ((n : Int) ≤ 64) = false := by simp; omega
    go_enter Tryd.func57, Tryd.ntmps57
    go_wp2_with fail
    go_ret
    exact ⟨rfl, rfl⟩

/-- A part with its length. -/
def lay (p : List UInt8) : List UInt8 := be 4 p.length ++ p
/-- What a label and the first k parts are. -/
def laidTo (s : ByteArray) (ps : List (List UInt8)) (k : Nat) : List UInt8 := be 2 s.size ++ s.data.toList ++ ((ps.take k).map lay).flatten
def laidB (s : ByteArray) (ps : List (List UInt8)) : List UInt8 := be 2 s.size ++ s.data.toList ++ (ps.map lay).flatten
theorem laidTo_zero (s : ByteArray) (ps : List (List UInt8)) : laidTo s ps 0 = be 2 s.size ++ s.data.toList := by simp [laidTo]
theorem laidTo_succ (s : ByteArray) (ps : List (List UInt8)) (k : Nat) (h : k < ps.length) : laidTo s ps (k + 1) = laidTo s ps k ++ be 4 (ps.getD k []).length ++ ps.getD k [] := by
  rw [laidTo, laidTo, List.take_succ_eq_append_getElem h, List.map_append, List.flatten_append]
  simp [lay, List.getD, h]
theorem laidTo_all (s : ByteArray) (ps : List (List UInt8)) : laidTo s ps ps.length = laidB s ps := by simp [laidTo, laidB]
theorem laidTo_le (s : ByteArray) (ps : List (List UInt8)) (k : Nat) : (laidTo s ps k).length ≤ (laidB s ps).length := by
  unfold laidTo laidB
  rw [List.length_append, List.length_append (bs := (ps.map lay).flatten), List.map_take]
  have := flat_take_le (ps.map lay) k
  omega

/-- The loop over the parts, in Derive and in laid: a round. -/
theorem lay_part (s : ByteArray) (ps : List (List UInt8)) (k base g : Nat) (A : Option Addr) (m c B : Nat) (w : World) (hk : k < ps.length) (hw : Writ w base g (laidTo s ps k)) (hm : BytesIn w B A m (ps.getD k [])) (hB : B ≤ base) (hlen : (laidB s ps).length ≤ 1000000) (K : Ending → World → Prop)
    (h : ∀ w', Writ w' base g (laidTo s ps (k + 1)) → Below base w w' → K (.returned (.pointer (some ⟨g, 0, none⟩))) w') :
    Calls Tryd.prog 45 #[.pointer (some ⟨g, 0, none⟩), .int .u32 (m : Int)] w fun e w1 => e = .returned (.pointer (some ⟨g, 0, none⟩)) ∧ Calls Tryd.prog 59 #[.pointer (some ⟨g, 0, none⟩), .slice A m c] w1 K := by
  have hle := laidTo_le s ps (k + 1)
  have hs := laidTo_succ s ps k hk
  have hml := hm.1
  rw [hs, List.length_append, List.length_append, be_length] at hle
  refine (four_any (laidTo s ps k) m m (by omega) base g w hw (by omega)).mono ?_
  rintro e w1 ⟨rfl, hw1, hb1⟩
  refine ⟨rfl, ?_⟩
  refine (byte_any _ (ps.getD k []) base g m c B A w1 hw1 (hm.below (hb1.mono hB)) (by rw [List.length_append, be_length]; omega)).mono ?_
  rintro e w2 ⟨rfl, hw2, hb2⟩
  exact h w2 (by rw [hs, hml]; exact hw2) (hb1.trans hb2)
set_option maxRecDepth 100000 in
set_option maxHeartbeats 2000000 in
theorem derive_ok (sec : List UInt8) (SA : Option Addr) (sn sc : Nat) (s : ByteArray) (ps : List (List UInt8)) (PA : Option Addr) (pn pc : Nat) (w : World) (hsec : BytesIn w w.heap.size SA sn sec) (h1 : 1 ≤ sn) (h2 : sn ≤ 64) (hsn : sn ≤ sc) (hsc : sc ≤ maxLen) (hs : s.size ≤ 65535)
    (hp : PartsIn w w.heap.size PA pn ps) (hlen : (laidB s ps).length ≤ 1000000) (hpn : pn ≤ 1000000) (hk : Consts w) (hst : Starts w) :
    Calls Tryd.prog 23 #[.slice SA sn sc, .string s, .slice PA pn pc] w fun e w' => e = .returned (.tuple #[.agg (u8s (hmac sec (laidB s ps))).toArray, .int .i64 0]) ∧ Below w.heap.size w w' := by
  have hpl : ps.length = pn := hp.1
  have HSEC := Lib.hid hsec
  have HP := Lib.hid hp
  have HC := Lib.hid hk
  have HS := Lib.hid hst
  have hm := fun w => may_yes SA sn sc h1 h2 w
  have HM := Lib.hid hm
  have s1 : (s.size : Int) ≤ 65535 := by omega
  obtain ⟨W0, hW0⟩ : ∃ W0 : World, W0 = w.alloc (.cells (u8s (zeros 32)).toArray 43) := ⟨_, rfl⟩
  obtain ⟨g, hg⟩ : ∃ g, g = W0.heap.size := ⟨_, rfl⟩
  obtain ⟨W1, hW1⟩ : ∃ W1 : World, W1 = W0.alloc (.cells #[.slice none 0 0, .int .i64 0] 80) := ⟨_, rfl⟩
  have hwr : Writ W1 g g [] := by rw [hW1, hg]; exact Writ.new W0
  have hr0 : Row W1 w.heap.size 43 (u8s (zeros 32)).toArray := by rw [hW1, hW0]; exact (Row.new w _ _).alloc _
  have hg1 : g = w.heap.size + 1 := by rw [hg, hW0]; simp
  have hb1 : Below w.heap.size w W1 := by rw [hW1, hW0]; exact ((Below.refl _ w).alloc (Nat.le_refl _) _).alloc (by simp) _
  have htx := text_any [] s g g W1 hwr hs (by simp; omega)
  rw [List.nil_append] at htx
  have HT := Lib.hid htx
  have HR0 := Lib.hid hr0
  have HB1 := Lib.hid hb1
  have HG1 := Lib.hid hg1
  have HG := Lib.hid hg
  have HW0 := Lib.hid hW0
  have HW1 := Lib.hid hW1
  clear hsec hp hk hst hm htx hwr hr0 hb1 hg hg1 hW0 hW1
  go_enter Tryd.func23, Tryd.ntmps23
  go_wp2_with (first | (go_at_call 57; refine (HM.out _).mono ?_; rintro e w' ⟨rfl, rfl⟩))
  change Calls _ _ _ ((w.alloc (.cells (u8s (zeros 32)).toArray 43)).alloc (.cells #[.slice none 0 0, .int .i64 0] 80)) _
  rw [← HW0.out, ← HW1.out, ← HG1.out]
  refine HT.out.mono ?_
  rintro e w2 ⟨rfl, hw2, hb2⟩
  have HW2 := Lib.hid hw2
  have HB2 := Lib.hid hb2
  have gle : w.heap.size ≤ g := by have := HG1.out; omega
  have HGLE := Lib.hid gle
  clear hw2 hb2 HT HW0 HW1 HG gle
  go_wp2_with fail
  go_loopw [26] (fun i wr => ∃ k : Nat, k ≤ pn ∧ i = .int .i64 k ∧ Writ wr g g (laidTo s ps k) ∧ Below g W1 wr) (fun i _ => pn - (intOf i).toNat)
  case atStart => exact ⟨0, by omega, rfl, by rw [laidTo_zero]; exact HW2.out, HB2.out⟩
  case round =>
    obtain ⟨k, hkp, rfl, hwr, hbr⟩ := hrel
    have HWR := Lib.hid hwr
    have HBR := Lib.hid hbr
    have hbw : Below w.heap.size w wr := HB1.out.trans (hbr.mono HGLE.out)
    have HBW := Lib.hid hbw
    clear hwr hbr hbw
    by_cases hlt : k < pn
    · obtain ⟨q, o, rfl, hq, hc⟩ := HP.out.2 (by omega)
      obtain ⟨A', m, cm, hc1, hc2, hc3, hc4⟩ := hc k hlt
      have hcell : wr.cell? ⟨q, o + k, none⟩ = some (.slice A' m cm) := (HBW.out.cell (p := ⟨q, o + k, none⟩) hq).trans hc1
      have hsucc := laidTo_succ s ps k (by omega)
      have hle := laidTo_le s ps (k + 1)
      have hml := hc4.1
      rw [hsucc, List.length_append, List.length_append, be_length, hml] at hle
      have hf := four_any (laidTo s ps k) m m (by omega) g g wr HWR.out (by omega)
      have hbm : BytesIn wr w.heap.size A' m (ps.getD k []) := hc4.below HBW.out
      have HF := Lib.hid hf
      have HBM := Lib.hid hbm
      have HSU := Lib.hid hsucc
      have HML := Lib.hid hml
      have m1 : (m : Int) ≤ 1000000 := by omega
      have m2 : (laidTo s ps k).length + 4 + m ≤ 1000000 := by omega
      have k1 : (k : Int) < pn := by omega
      have k2 : (0 : Int) ≤ k := by omega
      clear hc hc1 hc4 hsucc hle hml hf hbm
      go_wp2_with fail
      refine HF.out.mono ?_
      rintro e w3 ⟨rfl, hw3, hb3⟩
      have hby := byte_any _ (ps.getD k []) g g m cm _ A' w3 hw3 (HBM.out.below (hb3.mono HGLE.out)) (by rw [List.length_append, be_length]; omega)
      have HBY := Lib.hid hby
      have HB3 := Lib.hid hb3
      clear hw3 hb3 hby
      go_wp2_with fail
      refine HBY.out.mono ?_
      rintro e w4 ⟨rfl, hw4, hb4⟩
      have HW4 := Lib.hid hw4
      have HB4 := Lib.hid hb4
      clear hw4 hb4
      go_wp2_with fail
      go_roundw
      case rel =>
        refine ⟨k + 1, by omega, by go_num, ?_, HBR.out.trans (HB3.out.trans HB4.out)⟩
        rw [HSU.out, HML.out]; exact HW4.out
      case measure => simp [intOf]; omega
    · obtain rfl : k = ps.length := by omega
      rw [laidTo_all] at HWR
      have hdn := done_any (laidB s ps) g g wr HWR.out (by omega)
      have HDN := Lib.hid hdn
      clear hdn
      go_wp2_with fail
      refine HDN.out.mono ?_
      rintro e w5 ⟨A5, c5, rfl, hown5, hb5⟩
      have hb5w : Below w.heap.size w w5 := HBW.out.trans (hb5.mono HGLE.out)
      have hr5 : Row w5 w.heap.size 43 (u8s (zeros 32)).toArray := HR0.out.below (HBR.out.trans hb5) (by have := HG1.out; omega)
      obtain ⟨hc5, hc5m⟩ : (laidB s ps).length ≤ c5 ∧ c5 ≤ maxLen := by
        obtain ⟨A', c', e, h1, h2⟩ := hown5.form
        injection e with e1 e2 e3
        subst e3; exact ⟨h1, h2⟩
      have hmc := hmac_any sec [laidB s ps] SA sn sc (some ⟨w5.heap.size, 0, none⟩) 1 1 (w5.alloc (.cells #[.slice A5 (laidB s ps).length c5] 22)) (((HSEC.out.below hb5w).more hb5w.size).alloc (Nat.le_refl _) _ |>.more (by simp)) hsn hsc (by omega) (by omega) (partsIn_one hown5.bytes hc5 hc5m rfl) (by simp; omega) ((HC.out.below hb5w).alloc _) ((HS.out.below hb5w).alloc _)
      rw [show [laidB s ps].flatten = laidB s ps by simp] at hmc
      obtain ⟨out, hout⟩ : ∃ out, out = hmac sec (laidB s ps) := ⟨_, rfl⟩
      rw [← hout] at hmc
      have hol : out.length = 32 := by rw [hout]; exact sha_length _
      have hi := info_key out hol
      have hz := zeros32_size out hol
      have HMAC := Lib.hid hmc
      have HOUT := Lib.hid hout
      have HI := Lib.hid hi
      have HZ := Lib.hid hz
      have HR5 := Lib.hid hr5
      have HB5 := Lib.hid hb5w
      clear hmc hi hz hr5 hb5w hown5 hb5 hout
      go_wp2_with fail
      refine HMAC.out.mono ?_
      rintro e w6 ⟨rfl, hb6⟩
      have hb6w : Below w.heap.size w w6 := (HB5.out.alloc HB5.out.size _).trans (hb6.mono (by have := HB5.out.size; simp; omega))
      have hr6 : Row w6 w.heap.size 43 (u8s (zeros 32)).toArray := (HR5.out.alloc _).below hb6 (HR5.out.alloc _).lt
      have HR6 := Lib.hid hr6
      have HB6 := Lib.hid hb6w
      clear hb6 hb6w hr6
      go_wp2_with ((with_reducible show wpList _ _ _ (⟨none, .store _ _ _, _, _, _, _⟩ :: _) _ _); go_loud (refine wpList_store_row rfl 43 _ _ rfl w.heap.size (u8s out).toArray rfl rfl 43 _ HR6.out HI.out HZ.out (u8s_all _) ?_))
      exact bodyPost_ret (results_key rfl _ _ w.heap.size 43 _ _ _ rfl (Row.setRowSame HR6.out _) Tryd.underlying43 HI.out) rfl ⟨(by rw [← HOUT.out]; rfl), below_setRow HB6.out (Nat.le_refl _) _⟩

set_option maxRecDepth 100000 in
theorem derive_bad (SA : Option Addr) (sn sc : Nat) (s : ByteArray) (PA : Option Addr) (pn pc : Nat) (w : World) (h : sn = 0 ∨ 64 < sn) :
    Calls Tryd.prog 23 #[.slice SA sn sc, .string s, .slice PA pn pc] w fun e w' => e = .returned (.tuple #[.agg (u8s (zeros 32)).toArray, .int .i64 1]) ∧ Below w.heap.size w w' := by
  have hm := fun w => may_no SA sn sc h w
  have HM := Lib.hid hm
  clear hm h
  obtain ⟨W0, hW0⟩ : ∃ W0 : World, W0 = w.alloc (.cells (u8s (zeros 32)).toArray 43) := ⟨_, rfl⟩
  have hr0 : Row W0 w.heap.size 43 (u8s (zeros 32)).toArray := by rw [hW0]; exact Row.new w _ _
  have hb0 : Below w.heap.size w W0 := by rw [hW0]; exact (Below.refl _ w).alloc (Nat.le_refl _) _
  have HI := Lib.hid (info_key (zeros 32) (by simp [zeros]))
  have HR0 := Lib.hid hr0
  have HB0 := Lib.hid hb0
  have HW0 := Lib.hid hW0
  clear hr0 hb0 hW0
  go_enter Tryd.func23, Tryd.ntmps23
  go_upto_region 2 with (first | (go_at_call 57; refine (HM.out _).mono ?_; rintro e w' ⟨rfl, rfl⟩))
  change Code.wp _ _ _ _ (w.alloc (.cells (u8s (zeros 32)).toArray 43))
  rw [← HW0.out]
  go_wp2_with ((with_reducible show wpList _ _ _ (⟨none, .store _ _ _, _, _, _, _⟩ :: _) _ _); go_loud (refine wpList_store_self rfl 43 _ _ rfl w.heap.size (u8s (zeros 32)).toArray rfl rfl 43 HR0.out HI.out (u8s_all _) ?_))
  exact bodyPost_ret (results_key rfl _ _ w.heap.size 43 _ _ _ rfl HR0.out Tryd.underlying43 HI.out) rfl ⟨rfl, HB0.out⟩
end Go.Proofs.YtgejndannlfhkaaDoor
