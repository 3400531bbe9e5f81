/- The walk of hash.changed. No condition. -/
import Derived.Test.YtgejndannlfhkaaDoorClone
import Derived.Laws.CopyOwn
namespace Go.Proofs.YtgejndannlfhkaaDoor
open Go Go.RowKit Go.Shelf

/-- A key, filled up to a block. -/
def block64 (l : List UInt8) : List UInt8 := l.take 64 ++ List.replicate (64 - l.length) 0

/-- The block after its first k bytes are changed. -/
def changedTo (l : List UInt8) (x : UInt8) (k : Nat) : List UInt8 := (l.take k).map (· ^^^ x) ++ l.drop k

/-- A changed key. -/
def changed (l : List UInt8) (x : UInt8) : List UInt8 := (block64 l).map (· ^^^ x)

theorem n8_xor (x y : UInt8) : bits .xor .u8 (n8 x) (n8 y) = n8 (x ^^^ y) := by
  have h : bits .xor .u8 (n8 x) (n8 y) = IntKind.u8.wrap ((BitVec.ofInt 8 (n8 x) ^^^ BitVec.ofInt 8 (n8 y)).toNat : Int) := rfl
  have e : ∀ z : UInt8, BitVec.ofInt 8 (n8 z) = z.toBitVec := fun z => by
    unfold n8; rw [BitVec.ofInt_natCast]; apply BitVec.eq_of_toNat_eq; simp
  have r : (x.toBitVec ^^^ y.toBitVec).toNat = (x ^^^ y).toNat := rfl
  have := (x ^^^ y).toNat_lt
  rw [h, e, e, r, wrap_u8]; unfold n8; omega

theorem block64_length (l : List UInt8) : (block64 l).length = 64 := by simp [block64]; omega
theorem changedTo_length (l : List UInt8) (x : UInt8) (k : Nat) : (changedTo l x k).length = l.length := by simp [changedTo]; omega
theorem changedTo_get (l : List UInt8) (x : UInt8) (k : Nat) (h : k < l.length) : (changedTo l x k).getD k 0 = l.getD k 0 := by
  have e : min k l.length = k := Nat.min_eq_left (by omega)
  simp [changedTo, List.getD, List.getElem?_append, e]
theorem changedTo_succ (l : List UInt8) (x : UInt8) (k : Nat) (h : k < l.length) : (changedTo l x k).set k (l.getD k 0 ^^^ x) = changedTo l x (k + 1) := by
  have e : min k l.length = k := Nat.min_eq_left (by omega)
  apply List.ext_getElem?
  intro i
  simp only [changedTo, List.getElem?_set, List.getElem?_append, List.length_map, List.length_take, List.getElem?_map, List.getElem?_take, List.getElem?_drop, e, List.length_append, List.length_drop]
  have e1 : min (k + 1) l.length = k + 1 := Nat.min_eq_left (by omega)
  rw [e1]
  by_cases h1 : i < k
  · simp [h1, show i < k + 1 by omega, show ¬ k = i by omega]
  · by_cases h2 : i = k
    · subst h2; simp [h, List.getD, show i < i + (l.length - i) by omega]
    · simp [h1, show ¬ k = i by omega, show ¬ i < k + 1 by omega, show k + (i - k) = i by omega, show k + 1 + (i - (k + 1)) = i by omega]
theorem changedTo_all (l : List UInt8) (x : UInt8) : changedTo l x l.length = l.map (· ^^^ x) := by simp [changedTo]

/-- Bytes 0. -/
def zeros (n : Nat) : List UInt8 := List.replicate n 0

theorem run_make_bytes (n : Nat) (hn : n ≤ 1099511627776) (w : World) :
    (Instr.makeSlice 22 (.int .i64 n) (.int .i64 n)).run Tryd.prog w = .ok (.slice (some ⟨w.heap.size, 0, none⟩) n n) (w.alloc (.cells (u8s (zeros n)).toArray 5)) := by
  obtain ⟨i0, hi, hz0, hz1, hz2⟩ := info_parts info_u8
  rw [run_make w 22 5 i0 (.int .u8 0) Tryd.underlying22 hi hz0 .i64 .i64 n n (by omega) (by omega) (by rw [hz2]; omega) (by omega), hz1]
  have e : madeCells (Value.int .u8 0).cells ((n : Int).toNat * 1) = (u8s (zeros n)).toArray := by
    apply Array.ext
    · simp [madeCells, u8s, zeros, Value.cells]
    · intro i h1 h2
      simp [madeCells, u8s, zeros, Value.cells, Nat.mod_one]
      rfl
  rw [e]; rfl

theorem wpList_make_bytes {ops : Array Oper} {rest : List Oper} {o : Oper} {a : Act} {w : World} {Q : Exit → Act → World → Prop} (hg : o.guard = none) (l c : Operand) (hop : o.op = Op.makeSlice 22 l c)
    (n : Nat) (hl : a.eval l = .int .i64 n) (hc : a.eval c = .int .i64 n) (hn : n ≤ 1099511627776)
    (h : wpList Tryd.prog ops Q rest (a.put o.dst (.slice (some ⟨w.heap.size, 0, none⟩) n n)) (w.alloc (.cells (u8s (zeros n)).toArray 5))) : wpList Tryd.prog ops Q (o :: rest) a w := by
  refine wpList_plain hg fun K hK => ?_
  unfold Oper.wp
  simp [execOp, hop, hl, hc, run_make_bytes n hn w, Result.andThen]
  exact hK _ _ h

theorem splice_block (l : List UInt8) : splice (u8s (zeros 64)) 0 (u8s (l.take 64)) = u8s (block64 l) := by
  simp only [splice, List.take_zero, List.nil_append, Nat.zero_add, u8s_length, block64, u8s_append, zeros]
  congr 1
  rw [List.length_take, u8s, u8s, List.map_replicate, List.map_replicate, List.drop_replicate]
  congr 1
  omega

set_option maxRecDepth 100000 in
theorem changed_any (A : Option Addr) (n c B : Nat) (l : List UInt8) (x : UInt8) (w : World) (hv : BytesIn w B A n l) (hB : B ≤ w.heap.size) (hn : n ≤ 1099511627776) :
    Calls Tryd.prog 54 #[.slice A n c, .int .u8 (n8 x)] w fun e w' => e = .returned (.slice (some ⟨w.heap.size, 0, none⟩) 64 64) ∧ Row w' w.heap.size 5 (u8s (changed l x)).toArray ∧ Below w.heap.size w w' := by
  have HR0 : Hid (Row (w.alloc (.cells (u8s (zeros 64)).toArray 5)) w.heap.size 5 (u8s (zeros 64)).toArray) := Row.new w _ _
  have HB0 : Hid (Below w.heap.size w (w.alloc (.cells (u8s (zeros 64)).toArray 5))) := (Below.refl _ w).alloc (Nat.le_refl _) _
  have hpos : 0 < (u8s (l.take 64)).length → some (⟨w.heap.size, 0, none⟩ : Addr) = some ⟨w.heap.size, 0, none⟩ ∧ ∃ ad, A = some ad ∧ ∀ j v, (u8s (l.take 64))[j]? = some v → (w.alloc (.cells (u8s (zeros 64)).toArray 5)).cell? (ad.add j) = some v := by
    intro h
    rw [u8s_length, List.length_take] at h
    obtain ⟨ad, e, hb, hc⟩ := (hv.below ((Below.refl B w).alloc hB (.cells (u8s (zeros 64)).toArray 5))).cells (by have := hv.1; omega)
    refine ⟨rfl, ad, e, fun j v hj => hc j v ?_⟩
    rw [u8s_getElem?, List.getElem?_take] at hj
    rw [u8s_getElem?]
    split at hj
    · exact hj
    · cases hj
  have HP := Lib.hid hpos
  have HL : Hid ((u8s (l.take 64)).length = Nat.min n 64) := show _ = _ by rw [u8s_length, List.length_take, hv.1, Nat.min_comm]
  have HF : Hid (0 + (u8s (l.take 64)).length ≤ (u8s (zeros 64)).length) := show _ ≤ _ by rw [u8s_length, u8s_length, List.length_take, zeros, List.length_replicate]; omega
  have HU : Hid (∀ v ∈ u8s (l.take 64), v.oneCell' = true) := u8s_one _
  have size1 : (Tryd.prog.info? 5).map (·.size) = some 1 := by kernel_rfl
  clear hpos
  go_enter Tryd.func54, Tryd.ntmps54
  go_wp2_with (first | (at_make; refine wpList_make_bytes rfl _ _ rfl 64 rfl rfl (by decide) ?_) | ((with_reducible show wpList _ _ _ (⟨some 10, _, _, _, _, _⟩ :: _) _ _); go_loud (refine wpList_copy_splice rfl (.tmp 8) (.tmp 9) 22 22 rfl 5 Tryd.underlying22 size1 (some ⟨w.heap.size, 0, none⟩) A 64 64 n c rfl rfl w.heap.size 0 (u8s (zeros 64)) 5 HR0.out (u8s (l.take 64)) HL.out HP.out HF.out HU.out w.heap.size w HB0.out (Nat.le_refl _) ?_); intro w3 hr3 hb3))
  have hr4 : Row w3 w.heap.size 5 (u8s (block64 l)).toArray := by
    have := hr3.out
    rw [splice_block] at this
    exact this
  clear hr3 HR0 HB0 HP HL HF HU
  have HR3 := Lib.hid hr4
  have HB3 := Lib.hid hb3
  clear hr4 hb3
  go_loopw [13] (fun i wr => ∃ k : Nat, k ≤ 64 ∧ i = .int .i64 k ∧ Row wr w.heap.size 5 (u8s (changedTo (block64 l) x k)).toArray ∧ Below w.heap.size w wr) (fun i _ => 64 - (intOf i).toNat)
  case atStart => exact ⟨0, by omega, rfl, HR3.out, HB3.out⟩
  case round =>
    obtain ⟨k, hk, rfl, hrow, hbel⟩ := hrel
    by_cases hlt : k < 64
    · obtain ⟨y, hy⟩ : ∃ y, y = (block64 l).getD k 0 := ⟨_, rfl⟩
      have hc : wr.cell? ⟨w.heap.size, k, none⟩ = some (.int .u8 (n8 y)) := by
        have := (hrow.cell k).trans (List.getElem?_toArray.trans (u8s_get (changedTo (block64 l) x k) k (by rw [changedTo_length, block64_length]; exact hlt)))
        rw [changedTo_get _ _ _ (by rw [block64_length]; exact hlt), ← hy] at this
        exact this
      have hfr : wr.frozen? ⟨w.heap.size, k, none⟩ = false := hrow.free k
      have hnext := changedTo_succ (block64 l) x k (by rw [block64_length]; exact hlt)
      rw [← hy] at hnext
      have HN := Lib.hid hnext
      have HR := Lib.hid hrow
      have HB := Lib.hid hbel
      clear hnext hrow hbel hy
      have hb1 : (0 : Int) ≤ k := by omega
      have hb2 : (k : Int) < 64 := by omega
      go_wp2_with fail
      go_roundw
      case rel =>
        refine ⟨k + 1, by omega, by go_num, ?_, HB.out.setCell (p := ⟨w.heap.size, k, none⟩) (Nat.le_refl _) _⟩
        rw [n8_xor]
        have := HR.out.setByte k (y ^^^ x)
        rw [HN.out] at this
        exact this
      case measure => simp [intOf]; omega
    · obtain rfl : k = 64 := by omega
      have hfin : Row wr w.heap.size 5 (u8s (changed l x)).toArray := by
        have := changedTo_all (block64 l) x
        rw [block64_length] at this
        rw [changed, ← this]; exact hrow
      have HR := Lib.hid hfin
      have HB := Lib.hid hbel
      clear hfin hrow hbel
      go_wp2_with fail
      go_ret
      exact ⟨rfl, HR.out, HB.out⟩
end Go.Proofs.YtgejndannlfhkaaDoor
