/- The walk of slices.Chunk's iterator at bytes. No condition but sizes. -/
import Derived.Test.YtgejndannlfhkaaDoorConcat
import Derived.Test.YtgejndannlfhkaaDoorHashC
import Derived.RangeFuncNested
import Derived.RangeFuncBound
import Derived.RangeFuncCalls
import Derived.RangeFuncLeaves
import Derived.Shelf.Abstract
import Derived.Shelf.RegionOpen
import Derived.OwnWalkIn
import Derived.TacticsInMore
import Derived.LoopNIn
import Derived.LoopIn
namespace Go.Proofs.YtgejndannlfhkaaDoor
open Go Go.RowKit Go.Shelf
attribute [local go_sem] Oper.semAt_some

/-- Below block B all but block g is as it was. -/
structure KeptBut (B g : Nat) (w w' : World) : Prop where
  size : w.heap.size ≤ w'.heap.size
  block : ∀ k, k < B → k ≠ g → w'.heap[k]? = w.heap[k]?
theorem KeptBut.refl (B g : Nat) (w : World) : KeptBut B g w w := ⟨Nat.le_refl _, fun _ _ _ => rfl⟩
theorem KeptBut.trans {B g : Nat} {a b c : World} (h : KeptBut B g a b) (k : KeptBut B g b c) : KeptBut B g a c := ⟨Nat.le_trans h.size k.size, fun i hi hn => (k.block i hi hn).trans (h.block i hi hn)⟩
theorem KeptBut.cell {B g : Nat} {w w' : World} (h : KeptBut B g w w') {p : Addr} (hp : p.block < B) (hn : p.block ≠ g) : w'.cell? p = w.cell? p := World.cell?_of_block (w := w) (h.block _ hp hn)
theorem KeptBut.putObj {B g : Nat} (W : World) (l : Nat) (o o' : Obj) (hl : B ≤ l) (hsome : W.heap[l]? = some o) (_ : o.isCells = false) (_ : o.isWalk = false) : KeptBut B g W (W.putObj l o') := by
  have hg := grownBy_putObj' W l o'
  have hlt := (Array.getElem?_eq_some_iff.1 hsome).1
  exact ⟨hg.size, fun k hk _ => hg.block k (by omega) (fun e => by injection e; omega)⟩

set_option maxRecDepth 100000 in
set_option maxHeartbeats 2000000 in
theorem chunk1_in (n : Nat) (hn : 1 ≤ n) (l b1 b2 g c m B sb : Nat) (hm : 64 * m ≤ c) (h1 : b1 < B) (h2 : b2 < B) (h1s : b1 ≠ sb) (h2s : b2 ≠ sb) (hm2 : m ≤ 1099511627776) (J Jx : List Nat → World → Prop) (W : World) (hJ : AbidesFrom W.heap.size J)
    (hY : ∀ pre x W, J pre W → pre.length < m → x < m → YieldAt Fence.wide (n - 1) Tryd.prog l #[.slice (some ⟨g, 64 * x, none⟩) 64 64] W fun e W' =>
      (e = .returned (.bool true) ∧ J (pre ++ [x]) W' ∧ KeptBut B sb W W') ∨ (e = .returned (.bool false) ∧ Jx (pre ++ [x]) W'))
    (hc1 : W.cell? ⟨b1, 0, none⟩ = some (.slice (some ⟨g, 0, none⟩) (64 * m) c)) (hc2 : W.cell? ⟨b2, 0, none⟩ = some (.int .i64 64)) (h0 : J [] W) :
    CallsIn Fence.wide n Tryd.prog 73 #[.func (.yield l) #[] #[], .pointer (some ⟨b1, 0, none⟩), .pointer (some ⟨b2, 0, none⟩)] W fun e W' => (∃ v, e = .returned v) ∧
      ((∃ ys, ys = List.range m ∧ J ys W') ∨ (∃ pre : List Nat, True ∧ Jx pre W')) := by
  have HY := Lib.hid hY
  clear hY
  refine callsIn_of_wp Tryd.func73 rfl trivial ?_ rfl
  simp only [Tryd.ntmps73, List.size_toArray, List.length_cons, List.length_nil, Nat.reduceAdd, Nat.reduceSub, Array.replicate_succ, Array.replicate_zero, List.push_toArray, List.append_toArray, List.nil_append, List.cons_append]
  gi_wp2
  gi_loopw [4] (fun i wr => ∃ k : Nat, k ≤ m ∧ i = .int .i64 ((64 * k : Nat) : Int) ∧ J (List.range k) wr ∧ KeptBut B sb W wr) (fun i _ => 64 * m - (intOf i).toNat)
  case atStart => exact ⟨0, Nat.zero_le _, rfl, h0, KeptBut.refl _ _ _⟩
  case round =>
    obtain ⟨k, hk, rfl, hJs, hkb⟩ := hrel
    have hd1 : wr.cell? ⟨b1, 0, none⟩ = some (.slice (some ⟨g, 0, none⟩) (64 * m) c) := (hkb.cell (p := ⟨b1, 0, none⟩) h1 h1s).trans hc1
    have hd2 : wr.cell? ⟨b2, 0, none⟩ = some (.int .i64 64) := (hkb.cell (p := ⟨b2, 0, none⟩) h2 h2s).trans hc2
    have HJ := Lib.hid hJs
    have HK := Lib.hid hkb
    clear hJs hkb
    by_cases hlt : k < m
    · gi_wp2_with fail
      refine wpIn_wide.2 ?_
      go_quiet (fail)
      have hJq : J (List.range k) (wr.drewN nq) := hJ _ _ _ none HJ.out (only_drewN (World.grownBy.refl wr none) nq) (fun r e => by cases e)
      obtain ⟨fn, tmps, assign, body, hy, hR⟩ := HY.out _ k (wr.drewN nq) hJq (by simp; exact hlt) hlt
      have HR := Lib.hid hR
      clear hJq hR
      gi_wp2_with fail
      refine HR.out.mono ?_
      rintro e W3 (⟨rfl, hJ3, hk3⟩ | ⟨rfl, hJx3⟩)
      · have hd23 : W3.cell? ⟨b2, 0, none⟩ = some (.int .i64 64) := (hk3.cell (p := ⟨b2, 0, none⟩) h2 h2s).trans hd2
        have HJ3 := Lib.hid hJ3
        have HK3 := Lib.hid hk3
        clear hJ3 hk3
        gi_wp2_with fail
        go_roundw
        case rel => exact ⟨k + 1, by omega, by go_num, by rw [List.range_succ]; exact HJ3.out, HK.out.trans ⟨HK3.out.size, HK3.out.block⟩⟩
        case measure => simp [intOf]; omega
      · gi_wp2_with fail
        refine bodyPost_ret (results_none rfl _ _ _) rfl ?_
        exact ⟨⟨_, rfl⟩, .inr ⟨_, trivial, hJx3⟩⟩
    · obtain rfl : k = m := by omega
      gi_wp2_with fail
      go_end0
      exact ⟨⟨_, rfl⟩, .inl ⟨_, rfl, HJ.out⟩⟩

/-- slices.Chunk: the slice and the number are boxed; the function value has both. -/
theorem chunk_make (A : Option Addr) (n c : Nat) (w : World) : Calls Tryd.prog 48 #[.slice A n c, .int .i64 64] w fun e w' =>
    e = .returned (.func (.func 73) #[] #[.pointer (some ⟨w.heap.size, 0, none⟩), .pointer (some ⟨w.heap.size + 1, 0, none⟩)]) ∧ w' = (w.alloc (.cells #[.slice A n c] 22)).alloc (.cells #[.int .i64 64] 3) := by
  go_enter Tryd.func48, Tryd.ntmps48
  go_wp2
  go_ret
  exact ⟨rfl, rfl⟩

theorem chunk_stops (n : Nat) (hn : 1 ≤ n) (b1 b2 g c m sb : Nat) (w : World) (hm : 64 * m ≤ c) (h1 : b1 < w.heap.size) (h2 : b2 < w.heap.size) (h1s : b1 ≠ sb) (h2s : b2 ≠ sb) (hm2 : m ≤ 1099511627776)
    (hc1 : w.cell? ⟨b1, 0, none⟩ = some (.slice (some ⟨g, 0, none⟩) (64 * m) c)) (hc2 : w.cell? ⟨b2, 0, none⟩ = some (.int .i64 64)) :
    SeqStopsK Fence.wide n Tryd.prog 73 #[.pointer (some ⟨b1, 0, none⟩), .pointer (some ⟨b2, 0, none⟩)] (fun x : Fin m => #[.slice (some ⟨g, 64 * x.1, none⟩) 64 64]) (KeptBut w.heap.size sb)
      (fun ys => ys.map (·.1) = List.range m) (fun _ => True) m w := fun l J Jx W hW hJ hJx hY h0 => by
  refine (chunk1_in n hn l b1 b2 g c m w.heap.size sb hm h1 h2 h1s h2s hm2 (fun pre W => ∃ xs : List (Fin m), xs.map (·.1) = pre ∧ J xs W) (fun _ W => ∃ xs : List (Fin m), Jx xs W) W ?_ ?_ ((hW.cell (p := ⟨b1, 0, none⟩) h1).trans hc1) ((hW.cell (p := ⟨b2, 0, none⟩) h2).trans hc2) ⟨[], rfl, h0⟩).mono ?_
  · rintro s A B row ⟨xs, e, hj⟩ hg hr
    exact ⟨xs, e, hJ _ _ _ _ hj hg hr⟩
  · rintro pre x W1 ⟨xs, rfl, hj⟩ hlen hx
    refine (hY xs ⟨x, hx⟩ W1 hj (by simpa using hlen)).mono fun e W' h => ?_
    rcases h with ⟨he, hj', hk⟩ | ⟨he, hj'⟩
    · exact .inl ⟨he, ⟨xs ++ [⟨x, hx⟩], by simp, hj'⟩, hk⟩
    · exact .inr ⟨he, _, hj'⟩
  · rintro e W' ⟨he, h⟩
    refine ⟨he, ?_⟩
    rcases h with ⟨ys, rfl, xs, hxs, hj⟩ | ⟨pre, _, xs, hj⟩
    · exact .inl ⟨xs, hxs, hj⟩
    · exact .inr ⟨xs, trivial, hj⟩
end Go.Proofs.YtgejndannlfhkaaDoor
