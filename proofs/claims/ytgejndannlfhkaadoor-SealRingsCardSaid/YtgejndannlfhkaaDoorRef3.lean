/- The walks of the references' Number, Text, May, Derive and Tag. No condition but sizes. -/
import Derived.Test.YtgejndannlfhkaaDoorRefH
import Derived.Test.YtgejndannlfhkaaDoorSeal
import Derived.Test.YtgejndannlfhkaaDoorSealTag
import Derived.Lib.AppendStr
namespace Go.Proofs.YtgejndannlfhkaaDoor
open Go Go.RowKit Go.Shelf

theorem OwnB.of_row {w : World} {base g : Nat} {l : List UInt8} (h : Row w g 5 (u8s l).toArray) (hb : base ≤ g) (hm : l.length ≤ maxLen) : OwnB w base (.slice (some ⟨g, 0, none⟩) l.length l.length) l :=
  ⟨by rw [u8s_length, Nat.mul_one], .inr ⟨g, l.length, (u8s l).toArray, rfl, hb, h, Nat.le_refl _, hm, by rw [List.size_toArray, u8s_length, Nat.mul_one], by rw [Nat.mul_one]; exact List.take_of_length_le (by rw [u8s_length]; exact Nat.le_refl _)⟩⟩

/-- What is filled from behind: j bytes done of many. -/
def numTo (many n j : Nat) : List UInt8 := List.replicate (many - j) 0 ++ be j n
theorem numTo_length (many n j : Nat) (h : j ≤ many) : (numTo many n j).length = many := by
  rw [numTo, List.length_append, be_length, List.length_replicate]; omega
theorem numTo_all (many n : Nat) : numTo many n many = be many n := by simp [numTo]
theorem be_front (j n : Nat) : be (j + 1) n = UInt8.ofNat (n / 256 ^ j) :: be j n := by
  rw [Nat.add_comm, be_split 1 j]; rfl
theorem numTo_succ (many n j : Nat) (h : j < many) : numTo many n (j + 1) = (numTo many n j).set (many - 1 - j) (UInt8.ofNat (n / 256 ^ j)) := by
  have e : many - j = (many - 1 - j) + 1 := by omega
  rw [numTo, numTo, be_front, e, List.replicate_succ', List.append_assoc, List.set_append, List.length_replicate, if_neg (by omega), Nat.sub_self]
  rw [show many - (j + 1) = many - 1 - j by omega]
  rfl

theorem num_div (n j : Nat) : n / 256 ^ j / 256 = n / 256 ^ (j + 1) := by rw [Nat.div_div_eq_div_mul, Nat.pow_succ]

set_option maxRecDepth 100000 in
set_option maxHeartbeats 1000000 in
theorem numberF_any (n many : Nat) (z : Int) (hz : z = (n : Int)) (hn : n < 18446744073709551616) (hm : many ≤ 8) (w : World) :
    Calls Tryd.prog 61 #[.int .u64 z, .int .i64 (many : Int)] w fun e w' => e = .returned (.slice (some ⟨w.heap.size, 0, none⟩) many many) ∧ Row w' w.heap.size 5 (u8s (be many n)).toArray ∧ Below w.heap.size w w' := by
  subst hz
  have m1 : (many : Int) ≤ 8 := by omega
  have hmk := run_make_bytes many (by omega) w
  obtain ⟨W0, hW0⟩ : ∃ W0 : World, W0 = w.alloc (.cells (u8s (zeros many)).toArray 5) := ⟨_, rfl⟩
  have hr0 : Row W0 w.heap.size 5 (u8s (numTo many n 0)).toArray := by rw [hW0]; have := Row.new w 5 (u8s (zeros many)).toArray; simpa [numTo, be, zeros] using this
  have hb0 : Below w.heap.size w W0 := by rw [hW0]; exact (Below.refl _ w).alloc (Nat.le_refl _) _
  have HR0 := Lib.hid hr0
  have HB0 := Lib.hid hb0
  have HW0 := Lib.hid hW0
  have HN := Lib.hid hn
  clear hr0 hb0 hW0 hn
  go_enter Tryd.func61, Tryd.ntmps61
  go_wp2_with fail
  rw [← HW0.out]
  clear hmk
  go_loopw [0, 6] (fun v i wr => ∃ j : Nat, j ≤ many ∧ i = .int .i64 ((many : Int) - 1 - j) ∧ v = .int .u64 ((n / 256 ^ j : Nat) : Int) ∧ Row wr w.heap.size 5 (u8s (numTo many n j)).toArray ∧ Below w.heap.size w wr) (fun _ i _ => (intOf i + 1).toNat)
  case atStart => exact ⟨0, by omega, by simp, by simp, HR0.out, HB0.out⟩
  case round =>
    obtain ⟨j, hj, rfl, rfl, hrow, hbel⟩ := hrel
    by_cases hlt : j < many
    · obtain ⟨q, hq⟩ : ∃ q, q = n / 256 ^ j := ⟨_, rfl⟩
      have hqn : q ≤ n := by rw [hq]; exact Nat.div_le_self _ _
      have hnext := numTo_succ many n j hlt
      have hdiv := num_div n j
      rw [← hq] at hnext hdiv ⊢
      obtain ⟨p, hp⟩ : ∃ p : Nat, p = many - 1 - j := ⟨_, rfl⟩
      have hpi : (many : Int) - 1 - (j : Int) = (p : Int) := by omega
      rw [hpi]
      rw [← hp] at hnext
      have hc : wr.cell? ⟨w.heap.size, p, none⟩ = some (.int .u8 (n8 ((numTo many n j).getD p 0))) := by rw [hrow.cell, List.getElem?_toArray]; exact u8s_get _ _ (by rw [numTo_length _ _ _ hj]; omega)
      have hf : wr.frozen? ⟨w.heap.size, p, none⟩ = false := hrow.free p
      obtain ⟨old, hold⟩ : ∃ old, old = n8 ((numTo many n j).getD p 0) := ⟨_, rfl⟩
      rw [← hold] at hc
      have HNX := Lib.hid hnext
      have HDV := Lib.hid hdiv
      have HR := Lib.hid hrow
      have HB := Lib.hid hbel
      have HP := Lib.hid hpi
      have p1 : (p : Int) < many := by omega
      have p0 : (0 : Int) ≤ p := by omega
      have q1 : (q : Int) < 18446744073709551616 := by have := HN.out; omega
      have q0 : (0 : Int) ≤ q := by omega
      have hx : (q : Int) % 256 = n8 (UInt8.ofNat q) := by rw [← n8_ofNat]; omega
      have HX := Lib.hid hx
      have hjp : (j : Int) + 1 + p = many := by omega
      have HJ := Lib.hid hjp
      clear hnext hdiv hrow hbel hpi hq hold hx hjp hp hqn
      go_wp2_with fail
      go_roundw
      case rel =>
        refine ⟨j + 1, by omega, ?_, ?_, ?_, HB.out.setCell (p := ⟨w.heap.size, p, none⟩) (Nat.le_refl _) _⟩
        · have h := HP.out
          have e : (p : Int) - 1 = (many : Int) - 1 - ((j + 1 : Nat) : Int) := by omega
          rw [← e]
        · rw [← HDV.out, Int.natCast_ediv]; rfl
        · rw [HNX.out, HX.out]; exact HR.out.setByte p _
      case measure => have := HP.out; simp [intOf] <;> omega
    · obtain rfl : j = many := by omega
      rw [numTo_all] at hrow
      have HR := Lib.hid hrow
      have HB := Lib.hid hbel
      have e1 : (j : Int) - 1 - (j : Int) = -1 := by omega
      rw [e1]
      clear hrow hbel e1
      go_wp2_with fail
      go_ret
      exact ⟨rfl, HR.out, HB.out⟩

theorem strCells_u8s (s : ByteArray) : Lib.strCells s = u8s s.data.toList := rfl
/-- 'append' of a string's bytes onto a row of the call's own. -/
theorem wpList_append_str {ops : Array Oper} {rest : List Oper} {o : Oper} {a : Act} {w : World} {Q : Exit → Act → World → Prop} (hgd : o.guard = none) (s x : Operand)
    (ho : o.op = .call { callee := .builtin .append, args := #[s, x], argTypes := #[22, 9] }) {base : Nat} {v : Value} {l : List UInt8} {t : ByteArray} (hs : a.eval s = v) (hown : OwnB w base v l) (hx : a.eval x = .string t)
    (hlen : l.length + t.size ≤ 1099511627776) (hbase : base ≤ w.heap.size)
    (h : ∀ A' c' w', Hid (OwnB w' base (.slice A' (l.length + t.size) c') (l ++ t.data.toList)) → Hid (w.grownBy w' v.ownBlock) → wpList Tryd.prog ops Q rest (a.put o.dst (.slice A' (l.length + t.size) c')) w') :
    wpList Tryd.prog ops Q (o :: rest) a w := by
  obtain ⟨i0, hi, hz0, hz1, hz2⟩ := info_parts info_u8
  obtain ⟨v', w', hrun, h2, h3, _⟩ := Lib.run_append_own_string (P := Tryd.prog) w base 22 9 o.type 5 i0 Tryd.underlying22 Tryd.underlying9 hi hz0 hz1 hz2 v l.length (u8s l) hown t (by unfold maxLen; omega) (by omega) hbase
  have h5 : OwnB w' base v' (l ++ t.data.toList) := by
    unfold OwnB
    rw [List.length_append, u8s_append, ← strCells_u8s, Array.length_toList]
    exact h2
  obtain ⟨A', c', e, _⟩ := h5.form
  rw [List.length_append, Array.length_toList] at e
  have e' : v' = .slice A' (l.length + t.size) c' := e
  subst e'
  exact Lib.wpList_append_run w hgd s x _ _ ho _ _ hs hx _ _ hrun (h A' c' w' h5 h3)

set_option maxRecDepth 100000 in
theorem textF_any (s : ByteArray) (hs : s.size ≤ 65535) (w : World) :
    Calls Tryd.prog 60 #[.string s] w fun e w' => ∃ A c, e = .returned (.tuple #[.slice A (2 + s.size) c, .int .i64 0]) ∧ OwnB w' w.heap.size (.slice A (2 + s.size) c) (be 2 s.size ++ s.data.toList) ∧ Below w.heap.size w w' := by
  have hn := numberF_any s.size 2 s.size rfl (by omega) (by omega) w
  have HNB := Lib.hid hn
  have s1 : (s.size : Int) ≤ 65535 := by omega
  clear hn
  go_enter Tryd.func60, Tryd.ntmps60
  go_wp2_with fail
  refine HNB.out.mono ?_
  rintro e w1 ⟨rfl, hr1, hb1⟩
  have hown : OwnB w1 w.heap.size (.slice (some ⟨w.heap.size, 0, none⟩) 2 2) (be 2 s.size) := by
    have := OwnB.of_row hr1 (Nat.le_refl _) (by rw [be_length]; decide)
    rwa [be_length] at this
  have HO := Lib.hid hown
  have HB1 := Lib.hid hb1
  clear hr1 hb1 hown HNB
  go_wp2_with ((with_reducible show wpList _ _ _ (⟨some 12, _, _, _, _, _⟩ :: _) _ _); go_loud (refine wpList_append_str (v := .slice (some ⟨w.heap.size, 0, none⟩) 2 2) (l := be 2 s.size) rfl (.tmp 10) (.tmp 11) rfl rfl HO.out rfl (by rw [be_length]; omega) HB1.out.size ?_); rw [be_length]; intro A5 c5 w5 hown5 hgrow5)
  go_ret2
  exact ⟨A5, c5, rfl, hown5.out, HB1.out.grown hgrow5.out HB1.out.size (fun k hk => (HO.out.lt k hk).1)⟩

theorem mayF_yes (A : Option Addr) (n c : Nat) (h1 : 1 ≤ n) (h2 : n ≤ 64) (w : World) : Calls Tryd.prog 38 #[.slice A n c] w fun e w' => e = .returned (.bool true) ∧ w' = w := by
  have b1 : (1 : Int) ≤ n := by omega
  have b2 : (n : Int) ≤ 64 := by omega
  go_enter Tryd.func38, Tryd.ntmps38
  go_wp2_with fail
  go_ret
  exact ⟨rfl, rfl⟩
theorem mayF_no (A : Option Addr) (n c : Nat) (h : n = 0 ∨ 64 < n) (w : World) : Calls Tryd.prog 38 #[.slice A n c] w fun e w' => e = .returned (.bool false) ∧ w' = w := by
  rcases h with h | h
  · subst h
    go_enter Tryd.func38, Tryd.ntmps38
    go_wp2_with fail
    go_ret
    exact ⟨rfl, rfl⟩
  · have b1 : (1 : Int) ≤ n := by omega
    have b2 : (64 : Int) < n := by omega
    have b3 : decide ((n : Int) ≤ 64) = false := by simp; omega
    go_enter Tryd.func38, Tryd.ntmps38
    go_wp2_with fail
    go_ret
    exact ⟨rfl, rfl⟩
end Go.Proofs.YtgejndannlfhkaaDoor
