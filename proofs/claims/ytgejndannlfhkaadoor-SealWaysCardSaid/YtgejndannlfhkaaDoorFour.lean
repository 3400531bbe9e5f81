/- Appends of short rows whatever their room; a drawn region that keeps short rows; the walks of SealWays's function literals. No condition but sizes. -/
import Derived.Test.YtgejndannlfhkaaDoorWay
import Derived.Test.YtgejndannlfhkaaDoorRelA
import Derived.Laws.EntriesVeiled
import Derived.Laws.OwnMore
namespace Go.Proofs.YtgejndannlfhkaaDoor
open Go Go.RowKit Go.Shelf

/-- What was there below B stays; short rows of the call's own stay; those of the bytes L too. -/
structure GrowsL (B : Nat) (L : List UInt8) (w w' : World) : Prop where
  below : Below B w w'
  short : ∀ {v l}, l.length ≤ 4 → OwnB w B v l → OwnB w' B v l
  long : ∀ {v}, OwnB w B v L → OwnB w' B v L
theorem GrowsL.refl (B : Nat) (L : List UInt8) (w : World) : GrowsL B L w w := ⟨Below.refl _ _, fun _ h => h, fun h => h⟩
theorem GrowsL.trans {B : Nat} {L : List UInt8} {a b c : World} (h : GrowsL B L a b) (k : GrowsL B L b c) : GrowsL B L a c :=
  ⟨h.below.trans k.below, fun hl ho => k.short hl (h.short hl ho), fun ho => k.long (h.long ho)⟩
theorem GrowsL.of {B : Nat} {L : List UInt8} {w w' : World} (h : Below w.heap.size w w') (hB : B ≤ w.heap.size) : GrowsL B L w w' :=
  ⟨h.mono hB, fun _ ho => ho.below h, fun ho => ho.below h⟩
theorem GrowsL.drew {B : Nat} {L : List UInt8} (w : World) : GrowsL B L w w.drew := ⟨⟨rfl, rfl, rfl, Nat.le_refl _, fun _ _ => rfl⟩, fun _ ho => ho, fun ho => ho⟩

theorem OwnB.front {w : World} {base n c : Nat} {A : Option Addr} {l : List UInt8} (h : OwnB w base (.slice A n c) l) (hn : 0 < n) : ∃ g, A = some ⟨g, 0, none⟩ ∧ base ≤ g := by
  rcases h.2 with ⟨e, h0⟩ | ⟨g', cap, cur, e, hb, _⟩
  · injection e with e1 e2 e3; omega
  · injection e with e1 e2 e3
    exact ⟨g', e1, hb⟩
theorem OwnB.keep {w w' : World} {B g n c : Nat} {l l' L : List UInt8} {v : Value} (h : OwnB w B (.slice (some ⟨g, 0, none⟩) n c) l) (h' : OwnB w' B (.slice (some ⟨g, 0, none⟩) L.length c) L) (hg : w.grownBy w' (some g))
    (hL : ∀ l', l'.length ≤ L.length → u8s l' = (u8s l).take l'.length → u8s l' = (u8s L).take l'.length) (ho : OwnB w B v l') (hl' : l'.length ≤ L.length) (hor : l'.length ≤ l.length ∨ l' = L) : OwnB w' B v l' := by
  refine ⟨ho.1, ?_⟩
  rcases ho.2 with he | ⟨g', cap, cur, e, hb, hh, h1, h2, h3, h4⟩
  · exact .inl he
  · by_cases eq : g' = g
    · subst eq
      rcases h.2 with ⟨e2, _⟩ | ⟨g2, cap2, cur2, e2, _, hh2, a1, a2, a3, a4⟩
      · injection e2 with e2; cases e2
      · injection e2 with e3 e4 e5
        injection e3 with e3
        injection e3 with e3
        subst e3
        rw [hh2] at hh
        injection hh with hh
        injection hh with hh
        subst hh
        rcases h'.2 with ⟨e6, _⟩ | ⟨g3, cap3, cur3, e6, _, hh3, b1, b2, b3, b4⟩
        · injection e6 with e6; cases e6
        · injection e6 with e7 e8 e9
          injection e7 with e7
          injection e7 with e7
          subst e7
          refine .inr ⟨g', cap, cur3, e, hb, hh3, h1, h2, by omega, ?_⟩
          rw [Nat.mul_one] at h4 b4 a4 ⊢
          rcases hor with hor | rfl
          · have t1 : cur3.toList.take l'.length = (u8s L).take l'.length := by rw [← b4, List.take_take, Nat.min_eq_left hl']
            rw [t1]
            refine (hL l' hl' ?_).symm
            have hn : n = l.length := by obtain ⟨A', c', e, _⟩ := h.form; injection e
            rw [← a4, List.take_take, Nat.min_eq_left hor, h4]
          · exact b4
    · exact .inr ⟨g', cap, cur, e, hb, (hg.block g' (Array.getElem?_eq_some_iff.1 hh).1 (by simpa using eq)).trans hh, h1, h2, h3, h4⟩

/-- Appending one short row to another, in its room or in a new row. -/
theorem run_append_short {w : World} {B : Nat} {A1 A2 : Option Addr} {c1 c2 : Nat} {l k : List UInt8} (ty : TypeId) (h1 : OwnB w B (.slice A1 4 c1) l) (h2 : OwnB w B (.slice A2 4 c2) k) (hl : l.length = 4) (hk : k.length = 4) (hB : B ≤ w.heap.size) :
    ∃ A' c' w', (Builtin.append_ #[22, 22] ty #[.slice A1 4 c1, .slice A2 4 c2]).run Tryd.prog w = .ok (.slice A' 8 c') w' ∧ OwnB w' B (.slice A' 8 c') (l ++ k) ∧ GrowsL B (l ++ k) w w' := by
  obtain ⟨i0, hi, hz0, hz1, hz2⟩ := info_parts info_u8
  obtain ⟨g1, rfl, hg1⟩ := h1.front (by decide)
  obtain ⟨ad2, e2, _, hc2⟩ := h2.bytes.cells (by decide)
  subst e2
  obtain ⟨ad1, e1, _, hc1⟩ := h1.bytes.cells (by decide)
  injection e1 with e1
  subst e1
  have hlk : (l ++ k).length = 8 := by rw [List.length_append]; omega
  by_cases hroom : 4 + 4 ≤ c1
  · have h1' : w.ownsRow B 5 1 (.slice (some ⟨g1, 0, none⟩) 4 c1) 4 (u8s l) := by have := h1; unfold OwnB at this; rwa [hl] at this
    obtain ⟨w', hr, ho, hg⟩ := run_append_fits (P := Tryd.prog) w B 22 ty 5 i0 1 Tryd.underlying22 hi hz1 g1 4 c1 (u8s l) h1' ad2 4 c2 (u8s k) (by rw [u8s_length, hk]) hc2 (u8s_one _) hroom
    have ho' : OwnB w' B (.slice (some ⟨g1, 0, none⟩) 8 c1) (l ++ k) := by unfold OwnB; rw [hlk, u8s_append]; exact ho
    have ho8 : OwnB w' B (.slice (some ⟨g1, 0, none⟩) (l ++ k).length c1) (l ++ k) := by rw [hlk]; exact ho'
    have hL : ∀ l' : List UInt8, l'.length ≤ l.length → u8s l' = (u8s l).take l'.length → u8s l' = (u8s (l ++ k)).take l'.length := fun l' hle he => by
      rw [u8s_append, List.take_append_of_le_length (by rw [u8s_length]; exact hle)]; exact he
    refine ⟨_, _, w', hr, ho', (Below.refl _ _).grown hg hB (fun q e => by injection e with e; omega), fun {v l'} hle hv => ?_, fun {v} hv => ?_⟩
    · exact h1.keep ho8 hg (fun l2 _ he => by
        by_cases hh : l2.length ≤ l.length
        · exact hL l2 hh he
        · exfalso
          have := congrArg List.length he
          rw [u8s_length, List.length_take, u8s_length] at this
          omega) hv (by omega) (.inl (by omega))
    · exact h1.keep ho8 hg (fun l2 _ he => by
        by_cases hh : l2.length ≤ l.length
        · exact hL l2 hh he
        · exfalso
          have := congrArg List.length he
          rw [u8s_length, List.length_take, u8s_length] at this
          omega) hv (Nat.le_refl _) (.inr rfl)
  · have hr := run_append_grow (P := Tryd.prog) w 22 ty 5 i0 (.int .u8 0) Tryd.underlying22 hi hz0 ⟨g1, 0, none⟩ 4 c1 (u8s l) (by rw [u8s_length, hz1, hl]) hc1 ad2 4 c2 (u8s k) (by rw [u8s_length, hz1, hk]) hc2 (by omega) (by omega)
      (growslice_fits (by omega) (by rw [hz2]; decide))
    obtain ⟨A', c', w', hr2, ho, _, _⟩ := run_append_bytes ty h1 h2.bytes (by rw [hl]; decide) hB
    rw [hl] at hr2 ho
    have heq := hr.symm.trans hr2
    injection heq with e3 e4
    subst e4
    exact ⟨_, _, _, hr2, ho, GrowsL.of ⟨rfl, rfl, rfl, by simp, fun q hq => Below.heap_alloc w.drew _ q hq⟩ hB⟩

section
variable {P : Program}
/-- A drawn region, whole. -/
theorem wp_region_relL {id : Nat} {Q : Exit → Act → World → Prop} {a : Act} {w : World} {l : List Oper} (B : Nat) (L : List UInt8) (all : List (Nat × Option Tmp)) (tail : List Nat) (tl : List Oper) (hm : P.follows .mixedOrders = true) (htl : tail.map (l.toArray[·]?) = tl.map some) (hB : relB .any l.toArray (Array.replicate l.toArray.size false) all tail = true) (hf : all.length + tail.length = l.toArray.size)
    (h : relWalk P .any l.toArray (GrowsL B L) (GrowsL B L w) Q tl a all all []) : (Code.region id l.toArray true).wp P Q a w :=
  wp_region_any hm (wpAny_rel all tail tl (GrowsL B L) (GrowsL B L w) htl hB hf (fun _ _ h1 h2 => h1.trans h2) (GrowsL.drew w) h)
end

set_option maxRecDepth 100000 in
theorem lit4_any (n : Nat) (z : Int) (hz : z = ((n % 4294967296 : Nat) : Int)) (w : World) :
    Calls Tryd.prog 44 #[.int .u32 z] w fun e w' => ∃ A c, e = .returned (.slice A 4 c) ∧ OwnB w' w.heap.size (.slice A 4 c) (be 4 n) ∧ Below w.heap.size w w' := by
  have hwr : Writ (w.alloc (.cells #[.slice none 0 0, .int .i64 0] 80)) w.heap.size w.heap.size [] := Writ.new w
  have h := four_any [] n z hz _ _ _ hwr (by simp)
  have H := Lib.hid h
  clear h hwr hz
  go_enter Tryd.func44, Tryd.ntmps44
  go_wp2_with fail
  refine H.out.mono ?_
  rintro e w1 ⟨rfl, hw1, hb1⟩
  rw [List.nil_append] at hw1
  have HDN := Lib.hid (done_any _ _ _ w1 hw1 (by rw [be_length]; omega))
  have HB1 := Lib.hid hb1
  clear hw1 hb1 H
  go_wp2_with fail
  refine HDN.out.mono ?_
  rintro e w2 ⟨A2, c2, rfl, hown2, hb2⟩
  rw [be_length] at hown2 ⊢
  have HO2 := Lib.hid hown2
  have HB2 := Lib.hid hb2
  clear hown2 hb2 HDN
  go_wp2_with fail
  go_ret
  exact ⟨A2, c2, rfl, HO2.out, ((Below.refl _ w).alloc (Nat.le_refl _) _).trans (HB1.out.trans HB2.out)⟩

set_option maxRecDepth 100000 in
set_option maxHeartbeats 2000000 in
theorem lit8_any (n : Nat) (M : BitVec 64) (hz : M.toNat = n % 18446744073709551616) (q : Nat) (w : World) (hql : q < w.heap.size) (hq : w.cell? ⟨q, 0, none⟩ = some (.func (.func 44) #[] #[])) :
    Calls Tryd.prog 47 #[.int .u64 (n64 M), .pointer (some ⟨q, 0, none⟩)] w fun e w' => ∃ A c, e = .returned (.slice A 8 c) ∧ OwnB w' w.heap.size (.slice A 8 c) (be 8 n) ∧ Below w.heap.size w w' := by
  rw [show be 8 n = be 4 (n / 4294967296) ++ be 4 n from be_split 4 4 n]
  have hz' : n64 M = ((n % 18446744073709551616 : Nat) : Int) := by rw [← hz]; rfl
  have HZ := Lib.hid hz'
  have z0 := (n64_bd M).1
  have z1 := (n64_bd M).2
  clear hz hz'
  go_enter Tryd.func47, Tryd.ntmps47
  go_upto_region 1 with (fail)
  refine wp_region_relL w.heap.size (be 4 (n / 4294967296) ++ be 4 n) [(0, some 4), (1, some 5), (2, some 6), (3, some 7), (4, some 8), (5, some 9), (6, some 10), (7, some 11), (8, some 12), (9, some 13), (10, some 3)] [] [] (by kernel_rfl) rfl (by kernel_rfl) rfl ?_
  refine relE_const (GrowsL.refl _ _) rfl (.func (.func 44) #[] #[]) rfl (fun vs W hC hn => ?_) ?_
  · skip
    refine ⟨rfl, ?_⟩
    have hc := (hC.below.cell (p := ⟨q, 0, none⟩) hql).trans hq
    simp only [putAll]
    go_simp
  refine relE_const (GrowsL.refl _ _) rfl (.int .u64 (n64 M)) rfl (fun vs W hC hn => ?_) ?_
  · skip
    refine ⟨rfl, ?_⟩
    simp only [putAll]
    go_simp
  refine relE_const (GrowsL.refl _ _) rfl (.int .u64 (n64 M / 4294967296)) rfl (fun vs W hC hn => ?_) ?_
  · skip
    have e1 := hn.1 rfl
    refine ⟨rfl, ?_⟩
    simp only [putAll, e1]
    go_simp
  refine relE_const (GrowsL.refl _ _) rfl (.int .u32 (n64 M / 4294967296 % 4294967296)) rfl (fun vs W hC hn => ?_) ?_
  · skip
    have e2 := hn.1 rfl
    refine ⟨rfl, ?_⟩
    simp only [putAll, e2]
    go_simp
    exact IntKind.wrap_u32 _
  refine relE_call rfl (fun v W => ∃ A c, v = .slice A 4 c ∧ OwnB W w.heap.size (.slice A 4 c) (be 4 (n / 4294967296))) (by rintro v W1 W2 ⟨A, c, e, ho⟩ hG; exact ⟨A, c, e, hG.short (by rw [be_length]; omega) ho⟩) rfl (fun vs W hC hn => ?_) ?_
  · skip
    have e0 := hn.2.2.2.1 rfl
    have e3 := hn.1 rfl
    refine ⟨44, #[.int .u32 (n64 M / 4294967296 % 4294967296)], rfl, ?_, (lit4_any (n / 4294967296) (n64 M / 4294967296 % 4294967296) (by have := HZ.out; omega) W).mono (by rintro e2 w2 ⟨A, c, rfl, ho, hb⟩; exact ⟨_, rfl, ⟨A, c, rfl, ho.lower hC.below.size⟩, GrowsL.of hb hC.below.size⟩)⟩
    simp only [putAll, e0, e3]
    go_simp
  refine relE_const (GrowsL.refl _ _) rfl (.func (.func 44) #[] #[]) rfl (fun vs W hC hn => ?_) ?_
  · skip
    refine ⟨rfl, ?_⟩
    have hc := (hC.below.cell (p := ⟨q, 0, none⟩) hql).trans hq
    simp only [putAll]
    go_simp
  refine relE_const (GrowsL.refl _ _) rfl (.int .u64 (n64 M)) rfl (fun vs W hC hn => ?_) ?_
  · skip
    refine ⟨rfl, ?_⟩
    simp only [putAll]
    go_simp
  refine relE_const (GrowsL.refl _ _) rfl (.int .u32 (n64 M % 4294967296)) rfl (fun vs W hC hn => ?_) ?_
  · skip
    have e6 := hn.1 rfl
    refine ⟨rfl, ?_⟩
    simp only [putAll, e6]
    go_simp
    exact IntKind.wrap_u32 _
  refine relE_call rfl (fun v W => ∃ A c, v = .slice A 4 c ∧ OwnB W w.heap.size (.slice A 4 c) (be 4 n)) (by rintro v W1 W2 ⟨A, c, e, ho⟩ hG; exact ⟨A, c, e, hG.short (by rw [be_length]; omega) ho⟩) rfl (fun vs W hC hn => ?_) ?_
  · skip
    have e5 := hn.2.2.1 rfl
    have e7 := hn.1 rfl
    refine ⟨44, #[.int .u32 (n64 M % 4294967296)], rfl, ?_, (lit4_any n (n64 M % 4294967296) (by have := HZ.out; omega) W).mono (by rintro e2 w2 ⟨A, c, rfl, ho, hb⟩; exact ⟨_, rfl, ⟨A, c, rfl, ho.lower hC.below.size⟩, GrowsL.of hb hC.below.size⟩)⟩
    simp only [putAll, e5, e7]
    go_simp
  refine rel_append rfl (fun v W => ∃ A c, v = .slice A 8 c ∧ OwnB W w.heap.size (.slice A 8 c) (be 4 (n / 4294967296) ++ be 4 n)) (by rintro v W1 W2 ⟨A, c, e, ho⟩ hG; exact ⟨A, c, e, hG.long ho⟩) rfl rfl (.tmp 8) (.tmp 12) 22 22 rfl (fun vs W hC hn => ?_) ?_
  · skip
    obtain ⟨A4, c4, e4, ho4⟩ := hn.2.2.2.2.1 rfl
    obtain ⟨A8, c8, e8, ho8⟩ := hn.1 rfl
    obtain ⟨A9, c9, w9, hrun, ho9, hg9⟩ := run_append_short 22 ho4 ho8 (by rw [be_length]) (by rw [be_length]) hC.below.size
    refine ⟨.slice A4 4 c4, .slice A8 4 c8, _, w9, ?_, ?_, hrun, ⟨A9, c9, rfl, ho9⟩, hg9⟩
    · simp only [putAll, e4, e8]
      go_simp
    · simp only [putAll, e4, e8]
      go_simp
  refine relE_val rfl (fun v W => ∃ A c, v = .slice A 8 c ∧ OwnB W w.heap.size (.slice A 8 c) (be 4 (n / 4294967296) ++ be 4 n)) (by rintro v W1 W2 ⟨A, c, e, ho⟩ hG; exact ⟨A, c, e, hG.long ho⟩) rfl (fun vs W hC hn => ?_) ?_
  · skip
    obtain ⟨A9, c9, e9, ho9⟩ := hn.1 rfl
    refine ⟨.slice A9 8 c9, W, rfl, ?_, ⟨A9, c9, rfl, ho9⟩, GrowsL.refl _ _ _⟩
    simp only [putAll, e9]
    go_simp
  refine relE_nil (fun vs W hC hn => ?_)
  obtain ⟨A9, c9, e9, ho9⟩ := hn.1
  simp only [putAll, e9]
  have HB := Lib.hid hC.below
  have HO := Lib.hid ho9
  clear hC hn ho9
  go_wp2_with fail
  go_ret
  refine ⟨A9, c9, ?_, HO.out, HB.out⟩
  go_simp
end Go.Proofs.YtgejndannlfhkaaDoor
