/- The walks of slices.Grow (of nil) and slices.Concat at bytes. No condition but sizes. -/
import Derived.Test.YtgejndannlfhkaaDoorBytes
import Derived.Lib.Hide
import Derived.Outline
import Derived.OwnWalk
namespace Go.Proofs.YtgejndannlfhkaaDoor
open Go Go.RowKit

/-- A call that hands back a new slice of just these bytes, and turns nothing that was there. -/
def GivesOwn (w : World) (l : List UInt8) (e : Ending) (w' : World) : Prop :=
  ∃ A c, e = .returned (.slice A l.length c) ∧ OwnB w' w.heap.size (.slice A l.length c) l ∧ Below w.heap.size w w'

set_option maxRecDepth 100000 in
theorem grow_nil (n : Nat) (hn : n ≤ 1099511627776) (w : World) : Calls Tryd.prog 55 #[.slice none 0 0, .int .i64 (n : Int)] w (GivesOwn w []) := by
  by_cases h0 : n = 0
  · subst h0
    go_enter Tryd.func55, Tryd.ntmps55
    go_wp2_with fail
    go_ret
    exact ⟨none, 0, rfl, OwnB.nil w _, Below.refl _ _⟩
  · have hpos : (0 : Int) < (n : Int) := by omega
    go_enter Tryd.func55, Tryd.ntmps55
    go_wp2_with (first | (at_builtin; refine wpList_append_zeros (v := .slice none 0 0) rfl (.tmp 20) (.tmp 21) rfl rfl (OwnB.nil w w.heap.size) n rfl (by simp; omega) (Nat.le_refl _) ?_; intro A' c' w1 hown hgrow hblk hcap))
    go_ret
    have hown2 : OwnB w1 w.heap.size (.slice A' 0 c') [] := by
      have := hown.out.cut 0 (Nat.zero_le _)
      simpa using this
    exact ⟨A', c', rfl, hown2, (Below.refl _ _).grown hgrow.out (Nat.le_refl _) (fun k e => by simp [Value.ownBlock] at e)⟩

/-- The slice at A, of n elements, holds slices that read as these byte lists, all of it below block B. -/
def PartsIn (w : World) (B : Nat) (A : Option Addr) (n : Nat) (ps : List (List UInt8)) : Prop :=
  ps.length = n ∧ (0 < n → ∃ g o, A = some ⟨g, o, none⟩ ∧ g < B ∧ ∀ i, i < n → ∃ A' m c, w.cell? ⟨g, o + i, none⟩ = some (.slice A' m c) ∧ m ≤ c ∧ c ≤ maxLen ∧ BytesIn w B A' m (ps.getD i []))
theorem PartsIn.below {w w' : World} {B : Nat} {A : Option Addr} {n : Nat} {ps : List (List UInt8)} (h : PartsIn w B A n ps) (hb : Below B w w') : PartsIn w' B A n ps :=
  ⟨h.1, fun hn => by
    obtain ⟨g, o, e, hg, hc⟩ := h.2 hn
    refine ⟨g, o, e, hg, fun i hi => ?_⟩
    obtain ⟨A', m, c, h1, h2, h3, h4⟩ := hc i hi
    exact ⟨A', m, c, (hb.cell (p := ⟨g, o + i, none⟩) hg).trans h1, h2, h3, h4.below hb⟩⟩
theorem PartsIn.more {w : World} {B B' : Nat} {A : Option Addr} {n : Nat} {ps : List (List UInt8)} (h : PartsIn w B A n ps) (hB : B ≤ B') : PartsIn w B' A n ps :=
  ⟨h.1, fun hn => by
    obtain ⟨g, o, e, hg, hc⟩ := h.2 hn
    refine ⟨g, o, e, by omega, fun i hi => ?_⟩
    obtain ⟨A', m, c, h1, h2, h3, h4⟩ := hc i hi
    exact ⟨A', m, c, h1, h2, h3, h4.more hB⟩⟩

theorem flat_take_succ (ps : List (List UInt8)) (k : Nat) (hk : k < ps.length) : (ps.take (k + 1)).flatten = (ps.take k).flatten ++ ps.getD k [] := by
  rw [List.take_succ_eq_append_getElem hk, List.flatten_append]
  simp [List.getD, hk]
theorem flat_take_le (ps : List (List UInt8)) (k : Nat) : (ps.take k).flatten.length ≤ ps.flatten.length := by
  conv => rhs; rw [← List.take_append_drop k ps, List.flatten_append, List.length_append]
  omega

set_option maxRecDepth 100000 in
theorem concat_any (ps : List (List UInt8)) (A : Option Addr) (n c : Nat) (w : World) (hn : n ≤ 1099511627776) (hp : PartsIn w w.heap.size A n ps) (hsum : ps.flatten.length ≤ 1099511627776) :
    Calls Tryd.prog 17 #[.slice A n c] w (GivesOwn w ps.flatten) := by
  have HP := Lib.hid hp
  clear hp
  go_enter Tryd.func17, Tryd.ntmps17
  go_wp2_with fail
  go_loop [3, 11] (fun t i => ∃ k : Nat, k ≤ n ∧ i = .int .i64 k ∧ t = .int .i64 ((ps.take k).flatten.length : Nat)) (fun _ i => n - (intOf i).toNat)
  case atStart => exact ⟨0, by omega, rfl, by simp⟩
  case round =>
    obtain ⟨k, hk, rfl, rfl⟩ := hrel
    by_cases hlt : k < n
    · obtain ⟨g, o, rfl, hg, hc⟩ := HP.out.2 (by omega)
      obtain ⟨A', m, cm, hc1, hc2, hc3, hc4⟩ := hc k hlt
      have hm : (ps.getD k []).length = m := hc4.1
      have hsucc := flat_take_succ ps k (by rw [HP.out.1]; exact hlt)
      have hlen : (ps.take (k + 1)).flatten.length = (ps.take k).flatten.length + m := by rw [hsucc, List.length_append, hm]
      have hle := flat_take_le ps (k + 1)
      have HL := Lib.hid hlen
      have hb2 : (ps.take k).flatten.length + m ≤ 1099511627776 := by omega
      generalize (ps.take k).flatten.length = t at *
      clear hlen hsucc hc4 hc hm hle
      go_wp2_with fail
      go_round
      case rel => exact ⟨k + 1, by omega, by go_num, by rw [HL.out]; go_num⟩
      case measure => simp [intOf]; omega
    · obtain rfl : k = n := by omega
      have htl : ps.take k = ps := List.take_of_length_le (by rw [HP.out.1]; exact Nat.le_refl _)
      rw [htl]
      clear htl
      obtain ⟨N, hN⟩ : ∃ N, N = ps.flatten.length := ⟨_, rfl⟩
      rw [← hN] at hsum ⊢
      have HN := Lib.hid hN
      clear hN
      go_wp2_with (go_at_call 55; refine (grow_nil _ hsum _).mono ?_; rintro e w1 ⟨A1, c1, rfl, hown, hbel⟩)
      have HO := Lib.hid hown
      have HB := Lib.hid hbel
      clear hown hbel
      go_loopw [6, 27] (fun v i wr => ∃ (j : Nat) (A2 : Option Addr) (c2 : Nat), j ≤ k ∧ i = .int .i64 j ∧ v = .slice A2 (ps.take j).flatten.length c2 ∧ OwnB wr w.heap.size (.slice A2 (ps.take j).flatten.length c2) (ps.take j).flatten ∧ Below w.heap.size w wr) (fun _ i _ => k - (intOf i).toNat)
      case atStart => exact ⟨0, A1, c1, by omega, rfl, rfl, by simpa using HO.out, HB.out⟩
      case round =>
        obtain ⟨j, A2, c2, hj, rfl, rfl, hown, hbel⟩ := hrel
        by_cases hjk : j < k
        · have hp := HP.out.below hbel
          obtain ⟨g, o, rfl, hg, hc⟩ := hp.2 (by omega)
          obtain ⟨A', m, cm, hc1, hc2, hc3, hc4⟩ := hc j hjk
          have hsucc := flat_take_succ ps j (by rw [HP.out.1]; exact hjk)
          have hm : (ps.getD j []).length = m := hc4.1
          have hle := flat_take_le ps (j + 1)
          have hb2 : (ps.take j).flatten.length + m ≤ 1099511627776 := by rw [hsucc, List.length_append, hm] at hle; have := HN.out; omega
          have hsz := hbel.size
          obtain ⟨news, hnews⟩ : ∃ news, news = ps.getD j [] := ⟨_, rfl⟩
          obtain ⟨L1, hL1⟩ : ∃ L1, L1 = (ps.take (j + 1)).flatten := ⟨_, rfl⟩
          obtain ⟨L, hL⟩ : ∃ L, L = (ps.take j).flatten := ⟨_, rfl⟩
          rw [← hnews] at hc4 hsucc
          rw [← hL1, ← hL] at hsucc
          rw [← hL] at hb2 hown ⊢
          have HL1 := Lib.hid hL1
          clear hnews hL1 hL
          have HS := Lib.hid hsucc
          have HO2 := Lib.hid hown
          have HB2 := Lib.hid hbel
          have HC4 := Lib.hid hc4
          clear hsucc hown hbel hc4 hc hp hm hle hc2 hc3
          go_wp2_with (first | (at_builtin; refine wpList_append_bytes (v := .slice A2 L.length c2) rfl (.tmp 31) (.tmp 32) rfl rfl HO2.out rfl HC4.out (by omega) hsz ?_; intro A3 c3 w3 hown3 hgrow3 hblk3))
          go_roundw
          case rel =>
            have hl : L1.length = L.length + m := by rw [HS.out, List.length_append, HC4.out.1]
            refine ⟨j + 1, A3, c3, by omega, by go_num, by rw [← HL1.out, hl], ?_, HB2.out.grown hgrow3.out HB2.out.size (fun q e => (HO2.out.lt q e).1)⟩
            rw [← HL1.out, hl, HS.out]
            exact hown3.out
          case measure => simp [intOf]; omega
        · obtain rfl : j = k := by omega
          have htl : ps.take j = ps := List.take_of_length_le (by rw [HP.out.1]; exact Nat.le_refl _)
          rw [htl] at hown ⊢
          have HO2 := Lib.hid hown
          have HB2 := Lib.hid hbel
          clear htl hown hbel
          go_wp2_with fail
          go_ret
          exact ⟨A2, c2, rfl, HO2.out, HB2.out⟩
end Go.Proofs.YtgejndannlfhkaaDoor
