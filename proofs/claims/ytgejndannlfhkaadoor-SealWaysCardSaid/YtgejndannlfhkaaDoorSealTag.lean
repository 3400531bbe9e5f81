/- The walks of bytes.Clone and of seal.Key.Tag. No condition but sizes. -/
import Derived.Test.YtgejndannlfhkaaDoorReader
import Derived.Test.YtgejndannlfhkaaDoorSeal
import Derived.Test.YtgejndannlfhkaaDoorTells
namespace Go.Proofs.YtgejndannlfhkaaDoor
open Go Go.RowKit Go.Shelf

theorem bcloneB_nil (c : Nat) (w : World) : Calls Tryd.prog 28 #[.slice none 0 c] w fun e w' => e = .returned (.slice none 0 0) ∧ w' = w := by
  have q : ∀ (w : World) (a : Option Addr) (n c n' c' : Nat), (binOp .eql 22 (.slice a n c) (.slice none n' c')).run Tryd.prog w = .ok (.bool a.isNone) w := fun w a n c n' c' => Lib.run_eql_slice_nil w _ _ a n c n' c' Tryd.underlying22
  go_enter Tryd.func28, Tryd.ntmps28
  go_wp2_with (fail)
  go_ret
  exact ⟨rfl, rfl⟩

set_option maxRecDepth 100000 in
/-- bytes.Clone: a slice of the call's own, of the same bytes. -/
theorem bcloneB_any (A : Option Addr) (n c B : Nat) (l : List UInt8) (w : World) (hv : BytesIn w B A n l) (hB : B ≤ w.heap.size) (hn : n ≤ 1099511627776) :
    Calls Tryd.prog 28 #[.slice A n c] w fun e w' => ∃ A' c', e = .returned (.slice A' n c') ∧ OwnB w' w.heap.size (.slice A' n c') l ∧ Below w.heap.size w w' := by
  cases A with
  | none =>
    obtain rfl : n = 0 := by
      by_cases h : 0 < n
      · obtain ⟨g, o, e, _⟩ := hv.2 h
        cases e
      · omega
    obtain rfl : l = [] := List.eq_nil_of_length_eq_zero hv.1
    refine (bcloneB_nil c w).mono ?_
    rintro e w' ⟨rfl, rfl⟩
    exact ⟨none, 0, rfl, OwnB.nil _ _, Below.refl _ _⟩
  | some ad =>
  have q : ∀ (w : World) (a : Option Addr) (n c n' c' : Nat), (binOp .eql 22 (.slice a n c) (.slice none n' c')).run Tryd.prog w = .ok (.bool a.isNone) w := fun w a n c n' c' => Lib.run_eql_slice_nil w _ _ a n c n' c' Tryd.underlying22
  have HV : Hid (BytesIn (w.alloc (.cells #[] 5)) B (some ad) n l) := hv.below ((Below.refl B w).alloc hB _)
  have HO : Hid (OwnB (w.alloc (.cells #[] 5)) w.heap.size (.slice (some ⟨w.heap.size, 0, none⟩) 0 0) []) := World.ownsRow_made w #[] 0 (Nat.le_refl _) (Nat.zero_le _) rfl
  clear hv
  have hsz : w.heap.size ≤ (w.alloc (.cells #[] 5)).heap.size := by simp
  go_enter Tryd.func28, Tryd.ntmps28
  go_wp2_with (at_builtin; go_loud (refine wpList_append_bytes (v := .slice (some ⟨w.heap.size, 0, none⟩) 0 0) rfl (.tmp 5) (.tmp 6) rfl rfl HO.out rfl HV.out (by simp <;> omega) hsz ?_); intro A' c' w' hown' hgrow' hblk')
  go_ret
  refine ⟨A', c', by simp, by simpa using hown'.out, ?_⟩
  exact below_of_grown ((Below.refl _ w).alloc (Nat.le_refl _) _) hgrow'.out hsz (by intro k hk; simp [Value.ownBlock] at hk; omega)

set_option maxRecDepth 100000 in
set_option maxHeartbeats 1000000 in
theorem tag_any (k b : List UInt8) (hk : k.length = 32) (BA : Option Addr) (bn bc : Nat) (w : World) (hb : BytesIn w w.heap.size BA bn b) (hbn : bn ≤ bc) (hbc : bc ≤ maxLen) (hlen : bn ≤ 1000000000) (hcs : Consts w) (hst : Starts w) :
    Calls Tryd.prog 25 #[.agg (u8s k).toArray, .slice BA bn bc] w fun e w' => e = .returned (.int .u64 (unbe ((hmac k b).take 8) : Nat)) ∧ Below w.heap.size w w' := by
  have hmc := hmac_any k [b] (some ⟨w.heap.size, 0, none⟩) 32 32 (some ⟨w.heap.size + 1, 0, none⟩) 1 1 ((w.alloc (.cells (u8s k).toArray 43)).alloc (.cells #[.slice BA bn bc] 22)) (by
      have h1 := bytesIn_row (Row.new w 43 (u8s k).toArray) (Row.new w 43 (u8s k).toArray).lt
      rw [hk] at h1
      exact (h1.alloc (Nat.le_refl _) _).more (by simp)) (by omega) (by unfold maxLen; omega) (by omega) (by omega) (partsIn_one ((hb.alloc (Nat.le_refl _) _).more (by simp)) hbn hbc (by simp)) (by simp; rw [hb.1]; omega) ((hcs.alloc _).alloc _) ((hst.alloc _).alloc _)
  rw [show [b].flatten = b by simp] at hmc
  obtain ⟨out, hout⟩ : ∃ out, out = hmac k b := ⟨_, rfl⟩
  have hol : out.length = 32 := by rw [hout]; exact sha_length _
  rw [← hout] at hmc ⊢
  have HMC := Lib.hid hmc
  clear hmc hb hcs hst hout
  go_enter Tryd.func25, Tryd.ntmps25
  go_wp2_with fail
  refine HMC.out.mono ?_
  rintro e w1 ⟨rfl, hb1⟩
  have hb1' : Below w.heap.size w w1 := (((Below.refl _ w).alloc (Nat.le_refl _) _).alloc (by simp) _).trans (hb1.mono (by simp; omega))
  have hby : BytesIn (w1.alloc (.cells (u8s out).toArray 24)) (w1.alloc (.cells (u8s out).toArray 24)).heap.size (some ⟨w1.heap.size, 0, none⟩) 32 out := by
    have h1 := bytesIn_row (Row.new w1 24 (u8s out).toArray) (Row.new w1 24 (u8s out).toArray).lt
    rw [hol] at h1
    exact h1
  have hnw := new_any (some ⟨w1.heap.size, 0, none⟩) 32 32 _ out _ hby (Nat.le_refl _) (by omega)
  have HNW := Lib.hid hnw
  have HB1 := Lib.hid hb1'
  clear hb1 hb1' hby hnw HMC
  go_wp2_with ((with_reducible show wpList _ _ _ (⟨none, .store _ _ _, _, _, _, _⟩ :: _) _ _); refine wpList_store_sum rfl _ _ rfl _ out hol rfl rfl rfl ?_)
  refine HNW.out.mono ?_
  rintro e w2 ⟨g, rfl, hr2, hb2⟩
  have h8 := eightR_any out _ g w2 hr2 (by omega) (by omega)
  have H8 := Lib.hid h8
  have HB2 := Lib.hid hb2
  clear hr2 hb2 h8 HNW
  go_wp2_with fail
  refine H8.out.mono ?_
  rintro e w3 ⟨rfl, _, hb3⟩
  have HB3 := Lib.hid hb3
  clear hb3 H8
  go_wp2_with fail
  go_ret
  have h2 := HB2.out.size
  have h1 := HB1.out.size
  exact ⟨rfl, (HB1.out.alloc h1 (.cells (u8s out).toArray 24)).trans ((HB2.out.mono (by simp; omega)).trans (HB3.out.mono (by simp; omega)))⟩
end Go.Proofs.YtgejndannlfhkaaDoor
