/- The walks of the scribe Reader: New, Take, the numbers, Text, Left, Err, of a reader that has what is asked. No condition but sizes. -/
import Derived.Test.YtgejndannlfhkaaDoorScribe
namespace Go.Proofs.YtgejndannlfhkaaDoor
open Go Go.RowKit Go.Shelf
/-- Block g is a reader of which the bytes l are left; it lies from block base on. -/
def Rdr (w : World) (base g : Nat) (l : List UInt8) : Prop :=
  base ≤ g ∧ ∃ A c, Row w g 107 #[.slice A l.length c, .bool false] ∧ l.length ≤ c ∧ c ≤ maxLen ∧
    ((A = none ∧ c = 0) ∨ ∃ q o, A = some ⟨q, o, none⟩ ∧ q ≠ g ∧ q < w.heap.size ∧ ∀ i, i < l.length → w.cell? ⟨q, o + i, none⟩ = some (.int .u8 (n8 (l.getD i 0))))

section
variable {w w' : World} {base g : Nat} {l : List UInt8}
theorem Rdr.lt (h : Rdr w base g l) : g < w.heap.size := by obtain ⟨_, A, c, h, _⟩ := h; exact h.lt
theorem Rdr.below (h : Rdr w base g l) (hb : Below w.heap.size w w') : Rdr w' base g l := by
  obtain ⟨h0, A, c, h1, h2, h3, h4⟩ := h
  refine ⟨h0, A, c, h1.below hb h1.lt, h2, h3, ?_⟩
  rcases h4 with h4 | ⟨q, o, e, hq, hl, hc⟩
  · exact .inl h4
  · exact .inr ⟨q, o, e, hq, Nat.lt_of_lt_of_le hl hb.size, fun i hi => (hb.cell (p := ⟨q, o + i, none⟩) hl).trans (hc i hi)⟩
theorem Rdr.len {A : Option Addr} {n c : Nat} {b : Bool} {h : Rdr w base g l} (hr : Row w g 107 #[.slice A n c, .bool b]) : n = l.length := by
  obtain ⟨_, A', c', h1, _⟩ := h
  have := h1.symm.trans hr
  simp at this
  exact this.1.2.1.symm
end

set_option maxRecDepth 100000 in
theorem new_any (A : Option Addr) (n c B : Nat) (l : List UInt8) (w : World) (hl : BytesIn w B A n l) (hB : B ≤ w.heap.size) (hn : n ≤ 1099511627776) :
    Calls Tryd.prog 30 #[.slice A n c] w fun e w' => ∃ g, e = .returned (.pointer (some ⟨g, 0, none⟩)) ∧ Rdr w' w.heap.size g l ∧ Below w.heap.size w w' := by
  have hnl := hl.1
  have hcl := cloneB_any A n c B l w hl hB hn
  have HCL := Lib.hid hcl
  clear hl hcl
  go_enter Tryd.func30, Tryd.ntmps30
  go_wp2_with (go_at_call 18; refine HCL.out.mono ?_; rintro e w1 ⟨A1, c1, rfl, hown1, hb1⟩)
  go_ret
  have hs := hb1.size
  refine ⟨w1.heap.size, rfl, ⟨hs, A1, c1, by rw [hnl]; exact Row.new w1 _ _, ?_, ?_, ?_⟩, hb1.alloc hs _⟩
  all_goals
    rcases hown1.2 with ⟨e, h0⟩ | ⟨q, cap, cur, e, hbq, hg, h1, h2, h3, h4⟩
    · injection e with e1 e2 e3
      subst e1 e2 e3
      first | omega | (unfold maxLen; omega) | exact .inl ⟨rfl, rfl⟩
    · injection e with e1 e2 e3
      subst e1 e3
      first
        | exact h1
        | exact h2
        | (have hq : q < w1.heap.size := (Array.getElem?_eq_some_iff.1 hg).1
           refine .inr ⟨q, 0, rfl, by omega, by simp; omega, fun i hi => ?_⟩
           have hby : BytesIn w1 w1.heap.size (some ⟨q, 0, none⟩) n l := hown1.bytes
           obtain ⟨q', o', e', _, hc⟩ := hby.2 (by omega)
           injection e' with e'
           injection e' with e1 e2
           subst e1 e2
           rw [← hc i (by omega)]
           exact ((Below.refl w1.heap.size w1).alloc (Nat.le_refl _) _).cell (p := ⟨q, 0 + i, none⟩) hq)

set_option maxRecDepth 100000 in
set_option maxHeartbeats 1000000 in
theorem takeR_any (l : List UInt8) (m base g : Nat) (w : World) (hr : Rdr w base g l) (hm : m ≤ l.length) (hl : l.length ≤ 1099511627776) :
    Calls Tryd.prog 33 #[.pointer (some ⟨g, 0, none⟩), .int .i64 (m : Int)] w fun e w' => ∃ A c, e = .returned (.slice A m c) ∧ OwnB w' w.heap.size (.slice A m c) (l.take m) ∧ Rdr w' base g (l.drop m) ∧ Below base w w' := by
  obtain ⟨hbg, A, c, hrow, hlc, hcm, hcase⟩ := hr
  have hg := hrow.lt
  have c0 : w.cell? ⟨g, 0, none⟩ = some (.slice A l.length c) := hrow.cell 0
  have c1 : w.cell? ⟨g, 1, none⟩ = some (.bool false) := hrow.cell 1
  have hby : BytesIn w w.heap.size A l.length l := ⟨rfl, fun h => by
    rcases hcase with ⟨_, e⟩ | ⟨q, o, e, _, hq, hc⟩
    · omega
    · exact ⟨q, o, e, hq, hc⟩⟩
  have hcl := cloneB_any A m c w.heap.size (l.take m) w (hby.take m hm) (Nat.le_refl _) (by omega)
  have HCL := Lib.hid hcl
  have HR := Lib.hid hrow
  have i1 : (0 : Int) ≤ m := by omega
  have i2 : (m : Int) ≤ l.length := by omega
  have i3 : (l.length : Int) ≤ c := by omega
  have i4 : (c : Int) ≤ 9223372036854775807 := by unfold maxLen at hcm; omega
  clear hrow hby hcl
  rcases hcase with ⟨rfl, rfl⟩ | ⟨q, o, rfl, hqg, hq, hc⟩
  · have l0 : l.length = 0 := by omega
    obtain rfl : l = [] := List.eq_nil_of_length_eq_zero l0
    obtain rfl : m = 0 := by simpa using hm
    clear hlc hcm hm i1 i2 i3 i4 l0
    simp only [List.length_nil] at c0
    go_enter Tryd.func33, Tryd.ntmps33
    go_wp2_with fail
    refine HCL.out.mono ?_
    rintro e w1 ⟨A1, c1', rfl, hown1, hb1⟩
    have hr1 := HR.out.below hb1 hg
    have c01 : w1.cell? ⟨g, 0, none⟩ = some (.slice none 0 0) := hr1.cell 0
    have f01 : w1.frozen? ⟨g, 0, none⟩ = false := hr1.free 0
    have HR1 := Lib.hid hr1
    have HO1 := Lib.hid hown1
    clear hr1 hown1
    go_wp2_with fail
    go_ret
    refine ⟨A1, c1', rfl, HO1.out.other ?_ _, ⟨hbg, none, 0, HR1.out.set 0 _, by simp, by unfold maxLen; omega, .inl ⟨rfl, rfl⟩⟩, (hb1.mono (by omega)).setCell (p := ⟨g, 0, none⟩) hbg _⟩
    intro e
    have := (HO1.out.lt g e).1
    omega
  · have HC := Lib.hid hc
    clear hc
    go_enter Tryd.func33, Tryd.ntmps33
    go_wp2_with fail
    refine HCL.out.mono ?_
    rintro e w1 ⟨A1, c1', rfl, hown1, hb1⟩
    have hr1 := HR.out.below hb1 hg
    have c01 : w1.cell? ⟨g, 0, none⟩ = some (.slice (some ⟨q, o, none⟩) l.length c) := hr1.cell 0
    have f01 : w1.frozen? ⟨g, 0, none⟩ = false := hr1.free 0
    have HR1 := Lib.hid hr1
    have HO1 := Lib.hid hown1
    have HB1 := Lib.hid hb1
    clear hr1 hown1 hb1
    have hdl : (l.drop m).length = l.length - m := List.length_drop ..
    have HDL := Lib.hid hdl
    clear hdl
    have hown : ∀ v : Value, OwnB (w1.setCell ⟨g, 0, none⟩ v) w.heap.size (.slice A1 m c1') (l.take m) := fun v => HO1.out.other (by
      intro e
      have := (HO1.out.lt g e).1
      omega) v
    have hbel : ∀ v : Value, Below base w (w1.setCell ⟨g, 0, none⟩ v) := fun v => (HB1.out.mono (by omega)).setCell (p := ⟨g, 0, none⟩) hbg v
    have hrow : ∀ v : Value, Row (w1.setCell ⟨g, 0, none⟩ v) g 107 #[v, .bool false] := fun v => HR1.out.set 0 v
    have hqs : ∀ v : Value, q < (w1.setCell ⟨g, 0, none⟩ v).heap.size := fun v => by have := HB1.out.size; simp; omega
    have hcell : ∀ (v : Value) (i : Nat), i < l.length → (w1.setCell ⟨g, 0, none⟩ v).cell? ⟨q, o + i, none⟩ = some (.int .u8 (n8 (l.getD i 0))) := fun v i hi =>
      (World.cell?_setCell_other _ _ _ _ (fun e => hqg (by injection e with e1; exact e1.symm))).trans ((HB1.out.cell (p := ⟨q, o + i, none⟩) hq).trans (HC.out i hi))
    have HOWN := Lib.hid hown
    have HBEL := Lib.hid hbel
    have HROW := Lib.hid hrow
    have HQS := Lib.hid hqs
    have HCELL := Lib.hid hcell
    clear hown hbel hrow hqs hcell
    by_cases hcm' : c = m
    · subst hcm'
      go_wp2_with fail
      go_ret
      refine ⟨A1, c1', rfl, HOWN.out _, ⟨hbg, some ⟨q, o, none⟩, 0, ?row, ?le1, ?le2, .inr ⟨q, o, rfl, hqg, HQS.out _, ?cells⟩⟩, HBEL.out _⟩
      case row => rw [HDL.out, show l.length - c = 0 by omega]; exact HROW.out (.slice (some ⟨q, o, none⟩) 0 0)
      case le1 => rw [HDL.out]; omega
      case le2 => unfold maxLen; omega
      case cells => intro i hi; rw [HDL.out] at hi; omega
    · go_wp2_with fail
      go_ret
      refine ⟨A1, c1', rfl, HOWN.out _, ⟨hbg, some ⟨q, o + m, none⟩, c - m, ?row', ?le1', ?le2', .inr ⟨q, o + m, rfl, hqg, HQS.out _, ?cells'⟩⟩, HBEL.out _⟩
      case row' => rw [HDL.out]; have := HROW.out (.slice (some ⟨q, o + m, none⟩) (l.length - m) (c - m)); simpa using this
      case le1' => rw [HDL.out]; omega
      case le2' => omega
      case cells' =>
        intro i hi
        rw [HDL.out] at hi
        have := HCELL.out (.slice (some ⟨q, o + m, none⟩) (l.length - m) (c - m)) (m + i) (by omega)
        rw [← Nat.add_assoc] at this
        rw [this]
        simp [List.getD]

/-- A string made of bytes. -/
theorem run_strB {w : World} {B : Nat} {A : Option Addr} {n : Nat} {l : List UInt8} (h : BytesIn w B A n l) (c : Nat) : (convert 22 9 (.slice A n c)).run Tryd.prog w = .ok (.string ⟨l.toArray⟩) w := by
  by_cases hn : 0 < n
  · obtain ⟨g, o, rfl, _, hc⟩ := h.2 hn
    have := run_convert_bytes_back (P := Tryd.prog) w 22 9 5 ⟨g, o, none⟩ c l Tryd.underlying22 Tryd.underlying5 Tryd.underlying9 (fun j hj => by
      rw [Addr.add_lit, hc j (by rw [← h.1]; exact hj)]
      simp [n8, List.getD, hj])
    rwa [h.1] at this
  · obtain rfl : n = 0 := by omega
    obtain rfl : l = [] := List.eq_nil_of_length_eq_zero h.1
    cases A with
    | none => exact run_convert_bytes_nil w 22 5 Tryd.underlying22 Tryd.underlying5 0 c 9 Tryd.underlying9
    | some ad =>
      exact run_convert_bytes_back (P := Tryd.prog) w 22 9 5 ad c [] Tryd.underlying22 Tryd.underlying5 Tryd.underlying9 (fun j hj => by simp at hj)

/-- The number of bytes, the highest first. -/
def unbe (l : List UInt8) : Nat := l.foldl (fun n c => n * 256 + c.toNat) 0
theorem unbe_snoc (l : List UInt8) (c : UInt8) : unbe (l ++ [c]) = unbe l * 256 + c.toNat := by simp [unbe]
theorem snoc_ind {P : List UInt8 → Prop} (h0 : P []) (h1 : ∀ l c, P l → P (l ++ [c])) : ∀ l, P l := by
  have : ∀ n (l : List UInt8), l.length = n → P l := by
    intro n
    induction n with
    | zero => intro l h; rw [List.eq_nil_of_length_eq_zero h]; exact h0
    | succ n ih =>
      intro l h
      rcases List.eq_nil_or_concat l with rfl | ⟨L, b, rfl⟩
      · exact h0
      · rw [List.concat_eq_append] at h ⊢
        exact h1 L b (ih L (by simpa using h))
  exact fun l => this _ l rfl
theorem unbe_bd : ∀ l : List UInt8, unbe l < 256 ^ l.length := by
  refine snoc_ind (by simp [unbe]) (fun l c ih => ?_)
  rw [unbe_snoc, List.length_append, List.length_singleton, Nat.pow_succ]
  have := c.toNat_lt
  omega
theorem unbe_be : ∀ k n, unbe (be k n) = n % 256 ^ k
  | 0, n => by simp [be, unbe, Nat.mod_one]
  | k + 1, n => by
    have e := Nat.mod_mul (x := n) (a := 256) (b := 256 ^ k)
    have e2 : 256 ^ (k + 1) = 256 * 256 ^ k := Nat.pow_succ'
    rw [be, unbe_snoc, unbe_be k, UInt8.toNat_ofNat', e2, e]
    show n / 256 % 256 ^ k * 256 + n % 256 = _
    omega
theorem be_unbe : ∀ l : List UInt8, be l.length (unbe l) = l := by
  refine snoc_ind rfl (fun l c ih => ?_)
  have h1 := c.toNat_lt
  rw [List.length_append, List.length_singleton, be, unbe_snoc]
  have e1 : (unbe l * 256 + c.toNat) / 256 = unbe l := by omega
  rw [e1, ih]
  congr 2
  apply UInt8.toNat_inj.1
  rw [UInt8.toNat_ofNat']
  omega
theorem be_inj {k a b : Nat} (h : be k a = be k b) (ha : a < 256 ^ k) (hb : b < 256 ^ k) : a = b := by
  have := congrArg unbe h
  rwa [unbe_be, unbe_be, Nat.mod_eq_of_lt ha, Nat.mod_eq_of_lt hb] at this
/-- A byte more, as the walk takes it in: shifted and or'ed. -/
theorem push64 (n : Nat) (c : UInt8) (h : n < 72057594037927936) : bits .or .u64 ((n : Int) * 256) (n8 c) = ((n * 256 + c.toNat : Nat) : Int) := by
  have hc := c.toNat_lt
  have e : bits .or .u64 ((n : Int) * 256) (n8 c) = IntKind.u64.wrap ((BitVec.ofInt 64 ((n * 256 : Nat) : Int) ||| BitVec.ofInt 64 (c.toNat : Int)).toNat : Int) := rfl
  rw [e, BitVec.ofInt_natCast, BitVec.ofInt_natCast, BitVec.toNat_or, BitVec.toNat_ofNat, BitVec.toNat_ofNat, Nat.mod_eq_of_lt (by omega), Nat.mod_eq_of_lt (by omega)]
  have h2 : c.toNat < 2 ^ 8 := by omega
  have h3 : n * 256 = 2 ^ 8 * n := by omega
  rw [h3, ← Nat.two_pow_add_eq_or_of_lt h2, IntKind.wrap_u64]
  omega

set_option maxRecDepth 100000 in
theorem number_any (l : List UInt8) (m base g : Nat) (w : World) (hr : Rdr w base g l) (hm : m ≤ l.length) (hm8 : m ≤ 8) (hl : l.length ≤ 1099511627776) :
    Calls Tryd.prog 64 #[.pointer (some ⟨g, 0, none⟩), .int .i64 (m : Int)] w fun e w' => e = .returned (.int .u64 (unbe (l.take m) : Nat)) ∧ Rdr w' base g (l.drop m) ∧ Below base w w' := by
  have htk := takeR_any l m base g w hr hm hl
  have HTK := Lib.hid htk
  have i1 : (0 : Int) ≤ m := by omega
  have i2 : (m : Int) ≤ 8 := by omega
  clear htk hr
  go_enter Tryd.func64, Tryd.ntmps64
  go_wp2_with fail
  refine HTK.out.mono ?_
  rintro e w1 ⟨A1, c1, rfl, hown1, hr1, hb1⟩
  have HO1 : Hid (BytesIn w1 w1.heap.size A1 m (l.take m)) := hown1.bytes
  have HR1 := Lib.hid hr1
  have HB1 := Lib.hid hb1
  clear hown1 hr1 hb1
  go_wp2_with fail
  go_loop [5, 12] (fun n i => ∃ k : Nat, k ≤ m ∧ i = .int .i64 k ∧ n = .int .u64 (unbe (l.take k) : Nat)) (fun _ i => m - (intOf i).toNat)
  case atStart => exact ⟨0, by omega, rfl, rfl⟩
  case round =>
    obtain ⟨k, hk, rfl, rfl⟩ := hrel
    by_cases hlt : k < m
    · obtain ⟨q, o, rfl, hq, hc⟩ := HO1.out.2 (by omega)
      have hck := hc k hlt
      obtain ⟨c, hcc⟩ : ∃ c, c = l.getD k 0 := ⟨_, rfl⟩
      have e1 : (l.take m).getD k 0 = c := by rw [hcc]; simp [List.getD, hlt]
      rw [e1] at hck
      have hbd := unbe_bd (l.take k)
      have hlk : (l.take k).length = k := by rw [List.length_take]; omega
      rw [hlk] at hbd
      have h7 : (256 : Nat) ^ k ≤ 256 ^ 7 := Nat.pow_le_pow_right (by decide) (by omega)
      have hn := push64 (unbe (l.take k)) c (by omega)
      have hs : unbe (l.take (k + 1)) = unbe (l.take k) * 256 + c.toNat := by
        rw [List.take_succ_eq_append_getElem (by omega), unbe_snoc, hcc]; simp [List.getD, show k < l.length by omega]
      have HS := Lib.hid hs
      have k1 : (k : Int) < m := by omega
      have k2 : (0 : Int) ≤ k := by omega
      obtain ⟨n, hnn⟩ : ∃ n, n = unbe (l.take k) := ⟨_, rfl⟩
      rw [← hnn] at hn hbd ⊢
      have HNN := Lib.hid hnn
      have n1 : (n : Int) < 72057594037927936 := by omega
      clear hc e1 hcc hlk h7 hs hnn hbd
      have c0 := (n8_bd c).1
      have c1' := (n8_bd c).2
      have HPU := Lib.hid hn
      clear hn
      go_wp2_with fail
      go_round
      case rel => exact ⟨k + 1, by omega, by go_num, by rw [HPU.out, HS.out, HNN.out]⟩
      case measure => simp [intOf]; omega
    · obtain rfl : k = m := by omega
      go_wp2_with fail
      go_ret
      exact ⟨rfl, HR1.out, HB1.out⟩
/-- A whole number read, as the callers ask it. -/
theorem eightR_any (l : List UInt8) (base g : Nat) (w : World) (hr : Rdr w base g l) (hm : 8 ≤ l.length) (hl : l.length ≤ 1099511627776) :
    Calls Tryd.prog 62 #[.pointer (some ⟨g, 0, none⟩)] w fun e w' => e = .returned (.int .u64 (unbe (l.take 8) : Nat)) ∧ Rdr w' base g (l.drop 8) ∧ Below base w w' := by
  have h := number_any l 8 base g w hr hm (by omega) hl
  have H := Lib.hid h
  clear hr h
  go_enter Tryd.func62, Tryd.ntmps62
  go_wp2_with fail
  refine H.out.mono ?_
  rintro e w1 ⟨rfl, hr1, hb1⟩
  have HR1 := Lib.hid hr1
  clear hr1
  go_wp2_with fail
  go_ret
  exact ⟨rfl, HR1.out, hb1⟩
theorem fourR_any (l : List UInt8) (base g : Nat) (w : World) (hr : Rdr w base g l) (hm : 4 ≤ l.length) (hl : l.length ≤ 1099511627776) :
    Calls Tryd.prog 34 #[.pointer (some ⟨g, 0, none⟩)] w fun e w' => e = .returned (.int .u32 (unbe (l.take 4) : Nat)) ∧ Rdr w' base g (l.drop 4) ∧ Below base w w' := by
  have h := number_any l 4 base g w hr hm (by omega) hl
  have hbd := unbe_bd (l.take 4)
  rw [List.length_take, Nat.min_eq_left hm] at hbd
  obtain ⟨n, hn⟩ : ∃ n, n = unbe (l.take 4) := ⟨_, rfl⟩
  rw [← hn] at h hbd ⊢
  have n1 : (n : Int) < 4294967296 := by omega
  have H := Lib.hid h
  clear hr h hn hbd
  go_enter Tryd.func34, Tryd.ntmps34
  go_wp2_with fail
  refine H.out.mono ?_
  rintro e w1 ⟨rfl, hr1, hb1⟩
  have HR1 := Lib.hid hr1
  clear hr1
  go_wp2_with fail
  go_ret
  exact ⟨rfl, HR1.out, hb1⟩
theorem twoR_any (l : List UInt8) (base g : Nat) (w : World) (hr : Rdr w base g l) (hm : 2 ≤ l.length) (hl : l.length ≤ 1099511627776) :
    Calls Tryd.prog 63 #[.pointer (some ⟨g, 0, none⟩)] w fun e w' => e = .returned (.int .u16 (unbe (l.take 2) : Nat)) ∧ Rdr w' base g (l.drop 2) ∧ Below base w w' := by
  have h := number_any l 2 base g w hr hm (by omega) hl
  have hbd := unbe_bd (l.take 2)
  rw [List.length_take, Nat.min_eq_left hm] at hbd
  obtain ⟨n, hn⟩ : ∃ n, n = unbe (l.take 2) := ⟨_, rfl⟩
  rw [← hn] at h hbd ⊢
  have n1 : (n : Int) < 65536 := by omega
  have H := Lib.hid h
  clear hr h hn hbd
  go_enter Tryd.func63, Tryd.ntmps63
  go_wp2_with fail
  refine H.out.mono ?_
  rintro e w1 ⟨rfl, hr1, hb1⟩
  have HR1 := Lib.hid hr1
  clear hr1
  go_wp2_with fail
  go_ret
  exact ⟨rfl, HR1.out, hb1⟩
set_option maxRecDepth 100000 in
theorem textR_any (s l : List UInt8) (base g : Nat) (w : World) (hs : s.length ≤ 65535) (hr : Rdr w base g (be 2 s.length ++ (s ++ l))) (hl : s.length + l.length ≤ 1000000000) :
    Calls Tryd.prog 31 #[.pointer (some ⟨g, 0, none⟩)] w fun e w' => e = .returned (.string ⟨s.toArray⟩) ∧ Rdr w' base g l ∧ Below base w w' := by
  have h := twoR_any _ base g w hr (by rw [List.length_append, be_length]; omega) (by rw [List.length_append, be_length, List.length_append]; omega)
  have e1 : (be 2 s.length ++ (s ++ l)).take 2 = be 2 s.length := by rw [List.take_append_of_le_length (by rw [be_length]; omega), List.take_of_length_le (by rw [be_length]; omega)]
  have e2 : (be 2 s.length ++ (s ++ l)).drop 2 = s ++ l := by rw [List.drop_append_of_le_length (by rw [be_length]; omega), List.drop_of_length_le (by rw [be_length]; omega), List.nil_append]
  rw [e1, e2, unbe_be, Nat.mod_eq_of_lt (by omega)] at h
  have h2 := fun w1 (hr1 : Rdr w1 base g (s ++ l)) => takeR_any (s ++ l) s.length base g w1 hr1 (by rw [List.length_append]; omega) (by rw [List.length_append]; omega)
  rw [List.take_left, List.drop_left] at h2
  have H := Lib.hid h
  have H2 := Lib.hid h2
  have s1 : (s.length : Int) ≤ 65535 := by omega
  clear hr h h2 e1 e2
  go_enter Tryd.func31, Tryd.ntmps31
  go_wp2_with fail
  refine H.out.mono ?_
  rintro e w1 ⟨rfl, hr1, hb1⟩
  have H3 := Lib.hid (H2.out w1 hr1)
  clear hr1
  go_wp2_with fail
  refine H3.out.mono ?_
  rintro e w2 ⟨A2, c2, rfl, hown2, hr2, hb2⟩
  have hstr := run_strB hown2.bytes c2
  have HR2 := Lib.hid hr2
  clear hr2 hown2
  go_wp2_with fail
  go_ret
  exact ⟨rfl, HR2.out, hb1.trans hb2⟩
theorem leftR_any (l : List UInt8) (base g : Nat) (w : World) (hr : Rdr w base g l) :
    Calls Tryd.prog 36 #[.pointer (some ⟨g, 0, none⟩)] w fun e w' => e = .returned (.int .i64 (l.length : Nat)) ∧ w' = w := by
  obtain ⟨_, A, c, hrow, _⟩ := hr
  have c0 : w.cell? ⟨g, 0, none⟩ = some (.slice A l.length c) := hrow.cell 0
  clear hrow
  go_enter Tryd.func36, Tryd.ntmps36
  go_wp2_with fail
  go_ret
  exact ⟨rfl, rfl⟩
theorem errR_any (l : List UInt8) (base g : Nat) (w : World) (hr : Rdr w base g l) :
    Calls Tryd.prog 35 #[.pointer (some ⟨g, 0, none⟩)] w fun e w' => e = .returned (.int .i64 0) ∧ w' = w := by
  obtain ⟨_, A, c, hrow, _⟩ := hr
  have c1 : w.cell? ⟨g, 1, none⟩ = some (.bool false) := hrow.cell 1
  clear hrow
  go_enter Tryd.func35, Tryd.ntmps35
  go_wp2_with fail
  go_ret
  exact ⟨rfl, rfl⟩
end Go.Proofs.YtgejndannlfhkaaDoor
