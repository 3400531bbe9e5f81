/- The walk of longwirelaw03.few. No condition but sizes. -/
import Derived.Test.YtgejndannlfhkaaDoorPartsLaw
import Derived.Test.YtgejndannlfhkaaDoorSeal
namespace Go.Proofs.YtgejndannlfhkaaDoor
open Go Go.RowKit Go.Shelf

/-- The first 6 parts, of at most 80 bytes. -/
def fewL (ps : List (List UInt8)) : List (List UInt8) := (ps.take 6).map (·.take 80)
def fewTo (ps : List (List UInt8)) (k : Nat) : List (List UInt8) := ((ps.take k).take 6).map (·.take 80)
theorem fewTo_succ (ps : List (List UInt8)) (k : Nat) (h : k < ps.length) (h6 : k < 6) : fewTo ps (k + 1) = fewTo ps k ++ [(ps.getD k []).take 80] := by
  rw [fewTo, fewTo, List.take_take, List.take_take, Nat.min_eq_right (by omega), Nat.min_eq_right (by omega), List.take_succ_eq_append_getElem h, List.map_append]
  simp [List.getD, h]
theorem fewTo_stay (ps : List (List UInt8)) (k : Nat) (h6 : ¬ k < 6) : fewTo ps (k + 1) = fewTo ps k := by
  rw [fewTo, fewTo, List.take_take, List.take_take, Nat.min_eq_left (by omega), Nat.min_eq_left (by omega)]
theorem fewTo_all (ps : List (List UInt8)) : fewTo ps ps.length = fewL ps := by rw [fewTo, List.take_length]; rfl
theorem fewL_length (ps : List (List UInt8)) : (fewL ps).length ≤ 6 := by rw [fewL, List.length_map, List.length_take]; omega
theorem fewTo_length (ps : List (List UInt8)) (k : Nat) : (fewTo ps k).length ≤ 6 := by rw [fewTo, List.length_map, List.length_take]; omega
theorem fewL_laid (s : ByteArray) (ps : List (List UInt8)) (hs : s.size ≤ 65535) : (laidB s (fewL ps)).length ≤ 1000000 := by
  have h : ∀ l : List (List UInt8), (l.map lay).flatten.length ≤ l.length * 4 + l.flatten.length := by
    intro l
    induction l with
    | nil => simp
    | cons a l ih => simp only [List.map_cons, List.flatten_cons, List.length_append, lay, be_length, List.length_cons]; omega
  have h2 : ∀ l : List (List UInt8), (l.map (·.take 80)).flatten.length ≤ l.length * 80 := by
    intro l
    induction l with
    | nil => simp
    | cons a l ih => simp only [List.map_cons, List.flatten_cons, List.length_append, List.length_take, List.length_cons]; omega
  have h3 := h (fewL ps)
  have h4 := h2 (ps.take 6)
  have h5 := fewL_length ps
  have h6 : (ps.take 6).length ≤ 6 := by rw [List.length_take]; omega
  rw [show (ps.take 6).map (·.take 80) = fewL ps from rfl] at h4
  rw [laidB, List.length_append, List.length_append, be_length, Array.length_toList]
  have : s.data.size = s.size := rfl
  omega
theorem fewL_part (ps : List (List UInt8)) (k : Nat) : ((fewL ps).getD k []).length ≤ 80 := by
  rw [fewL, List.getD, List.getElem?_map]
  cases (ps.take 6)[k]? with
  | none => simp
  | some x => simp; omega

/-- What few hands back. -/
def GivesFew (w : World) (ps : List (List UInt8)) (e : Ending) (w' : World) : Prop :=
  ∃ A n c, e = .returned (.slice A n c) ∧ PartsIn w' w'.heap.size A n (fewL ps) ∧ n ≤ 6 ∧ n ≤ c ∧ c ≤ maxLen ∧ Below w.heap.size w w'

set_option maxRecDepth 100000 in
set_option maxHeartbeats 1000000 in
theorem few_any (ps : List (List UInt8)) (A : Option Addr) (n c : Nat) (w : World) (hp : PartsIn w w.heap.size A n ps) (hn : n ≤ maxLen) :
    Calls Tryd.prog 22 #[.slice A n c] w (GivesFew w ps) := by
  have HP := Lib.hid hp
  have HPL : Hid (ps.length = n) := hp.1
  clear hp
  have b3 : (n : Int) ≤ 9223372036854775807 := by unfold maxLen at hn; omega
  go_enter Tryd.func22, Tryd.ntmps22
  go_wp2_with fail
  go_loopw [3, 8] (fun s3 i wr => ∃ k : Nat, k ≤ n ∧ i = .int .i64 k ∧ ∃ xs Al cl, s3 = .slice Al xs.length cl ∧ OwnV wr w.heap.size 22 s3 xs ∧ SlicesOf w w.heap.size xs (fewTo ps k) ∧ Below w.heap.size w wr) (fun _ i _ => n - (intOf i).toNat)
  case atStart => exact ⟨0, by omega, rfl, [], none, 0, rfl, OwnV.none _ _ _, trivial, Below.refl _ _⟩
  case round =>
    obtain ⟨k, hkn', rfl, xs, Al, cl, rfl, hown, hsl, hbel⟩ := hrel
    have HO := Lib.hid hown
    have HX := Lib.hid hsl
    have HB := Lib.hid hbel
    clear hown hsl hbel
    by_cases hlt : k < n
    · obtain ⟨g, o, rfl, hg, hc⟩ := HP.out.2 (by omega)
      obtain ⟨A', m, cm, hc1, hc2, hc3, hc4⟩ := hc k hlt
      have hcell : wr.cell? ⟨g, o + k, none⟩ = some (.slice A' m cm) := (HB.out.cell (p := ⟨g, o + k, none⟩) hg).trans hc1
      have HP4 := Lib.hid hc4
      clear hc hc1 hc4
      have b4 : (m : Int) ≤ cm := by omega
      have b5 : (cm : Int) ≤ 9223372036854775807 := by unfold maxLen at hc3; omega
      have b6 : (k : Int) < n := by omega
      have b7 : (0 : Int) ≤ k := by omega
      have hv : ∀ q : Nat, Hid (ValsIn (wr.alloc (.cells #[.slice A' q cm] 22)) (wr.alloc (.cells #[.slice A' q cm] 22)).heap.size (some ⟨wr.heap.size, 0, none⟩) 1 [.slice A' q cm]) := fun q =>
        ValsIn.of_row (xs := [.slice A' q cm]) (Row.new wr _ _) (Row.new wr 22 _).lt
      have ho : ∀ q : Nat, Hid (OwnV (wr.alloc (.cells #[.slice A' q cm] 22)) w.heap.size 22 (.slice Al xs.length cl) xs) := fun q => HO.out.alloc _
      have hone : ∀ q : Nat, Hid (∀ u ∈ [Value.slice A' q cm], u.oneCell' = true) := fun q => by intro u hu; rw [List.mem_singleton] at hu; rw [hu]; rfl
      have hxl : Hid (xs.length ≤ 6) := show _ ≤ _ by rw [HX.out.length]; exact fewTo_length ps k
      have hsz : ∀ o : Obj, w.heap.size ≤ (wr.alloc o).heap.size := fun o => by have := HB.out.size; simp; omega
      have hlow : ∀ j, (Value.slice Al xs.length cl).ownBlock = some j → w.heap.size ≤ j := fun j hj => (HO.out.lt j hj).1
      have HLOW := Lib.hid hlow
      have HSZ := Lib.hid hsz
      clear hlow hsz
      by_cases h6 : k < 6
      · have h6i : (k : Int) < 6 := by omega
        go_wp2_with (at_builtin; go_loud (refine wpList_append_vals (v := .slice Al xs.length cl) oneCell_sl rfl (.tmp 15) (.tmp 21) rfl rfl (ho _).out rfl (hv _).out (hone _).out (by have := hxl.out; omega) (by have := hxl.out; omega) (HSZ.out _) ?_); intro A3 c3 w3 hown3 hgrow3 hblk3)
        all_goals
          go_roundw
          case rel =>
            have e : (if (80 : Int) < m then (80 : Int) else m).toNat = min m 80 := by split <;> omega
            rw [e] at hown3 hgrow3
            refine ⟨k + 1, by omega, by go_num, xs ++ [.slice A' (min m 80) cm], A3, c3, by simp, hown3.out, ?_, ?_⟩
            · rw [fewTo_succ ps k (by rw [HPL.out]; omega) h6]
              refine HX.out.append ⟨⟨A', min m 80, cm, rfl, by omega, hc3, ?_⟩, trivial⟩
              have h80 : (ps.getD k []).take 80 = (ps.getD k []).take (min m 80) := by
                rw [← HP4.out.1, List.take_eq_take_iff]; omega
              rw [h80]
              exact HP4.out.take _ (by omega)
            · exact (HB.out.alloc HB.out.size _).grown hgrow3.out (HSZ.out _) HLOW.out
          case measure => simp [intOf]; omega
      · have h6i : (6 : Int) ≤ k := by omega
        go_wp2_with fail
        go_roundw
        case rel =>
          refine ⟨k + 1, by omega, by go_num, xs, Al, cl, rfl, HO.out, ?_, HB.out⟩
          rw [fewTo_stay ps k h6]
          exact HX.out
        case measure => simp [intOf]; omega
    · obtain rfl : k = n := by omega
      have HF : Hid (fewTo ps k = fewL ps) := show _ = _ by rw [← HPL.out]; exact fewTo_all ps
      go_wp2_with fail
      go_ret
      rw [HF.out] at HX
      have hl : xs.length ≤ 6 := by rw [HX.out.length]; exact fewL_length ps
      obtain ⟨A', c', e, h1, h2⟩ := HO.out.form
      injection e with e1 e2 e3
      subst e3
      exact ⟨Al, xs.length, cl, rfl, (partsIn_of HO.out.vals ((HX.out.below HB.out).more HB.out.size)), hl, h1, h2, HB.out⟩
end Go.Proofs.YtgejndannlfhkaaDoor
