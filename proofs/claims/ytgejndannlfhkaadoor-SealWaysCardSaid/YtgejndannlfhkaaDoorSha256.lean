/- The walk of hash.Sha256: the hash of all parts, one behind the other. Conditions: sizes, and that the two tables lie in their variables. -/
import Derived.Test.YtgejndannlfhkaaDoorChunk
namespace Go.Proofs.YtgejndannlfhkaaDoor
open Go Go.RowKit Go.Shelf
attribute [local go_sem] Oper.semAt_some n32_to8 n64_to8
attribute [local go_sem ↓] n32_shr n64_shr

/-- The eight words of the beginning lie in their variable. -/
def Starts (w : World) : Prop := 0 < w.heap.size ∧ ∀ i, i < 8 → w.cell? ⟨0, i, none⟩ = some (.int .u32 (n32 (start.list.getD i 0)))
theorem Starts.below {w w' : World} (h : Starts w) (hb : Below w.heap.size w w') : Starts w' :=
  ⟨Nat.lt_of_lt_of_le h.1 hb.size, fun i hi => (hb.cell (p := ⟨0, i, none⟩) h.1).trans (h.2 i hi)⟩

set_option maxRecDepth 100000 in
set_option maxHeartbeats 1000000 in
theorem sha_any (ps : List (List UInt8)) (A : Option Addr) (n c : Nat) (w : World) (hn : n ≤ 1099511627776) (hp : PartsIn w w.heap.size A n ps) (hsum : ps.flatten.length ≤ 1099511627776) (hk : Consts w) (hst : Starts w) :
    Calls Tryd.prog 12 #[.slice A n c] w fun e w' => e = .returned (.agg (u8s (sha ps.flatten)).toArray) ∧ Below w.heap.size w w' := by
  have HP := Lib.hid hp
  have HK := Lib.hid hk
  have HST := Lib.hid hst
  clear hp hk hst
  refine (callsIn_wide (n := 8)).1 ?_
  refine callsIn_of_wp_marks Tryd.func12 rfl trivial ?_ rfl
  simp only [Tryd.ntmps12, List.size_toArray, List.length_cons, List.length_nil, Nat.reduceAdd, Nat.reduceSub, Array.replicate_succ, Array.replicate_zero, List.push_toArray, List.append_toArray, List.nil_append, List.cons_append]
  refine wpIn_wide.2 ?_
  go_wp2_with fail
  obtain ⟨W0, hW0⟩ : ∃ W0, W0 = w.alloc (.cells (u8s (List.replicate 32 0)).toArray 24) := ⟨_, rfl⟩
  have hR0 : Row W0 w.heap.size 24 (u8s (List.replicate 32 0)).toArray := by rw [hW0]; exact Row.new _ _ _
  have hB0 : Below w.heap.size w W0 := by rw [hW0]; exact (Below.refl _ _).alloc (Nat.le_refl _) _
  have hS0 : W0.heap.size = w.heap.size + 1 := by rw [hW0]; simp
  change Calls _ _ _ (w.alloc (.cells (u8s (List.replicate 32 0)).toArray 24)) _
  rw [← hW0]
  have HR0 := Lib.hid hR0
  have HB0 := Lib.hid hB0
  have HS0 := Lib.hid hS0
  clear hR0 hB0 hS0 hW0
  refine (concat_any ps A n c W0 hn ((HP.out.below HB0.out).more (by rw [HS0.out]; omega)) hsum).mono ?_
  rintro e w1 ⟨A1, c1, rfl, hown, hb1⟩
  obtain ⟨L, hL⟩ : ∃ L, L = ps.flatten := ⟨_, rfl⟩
  rw [← hL] at hown hsum ⊢
  rw [HS0.out] at hown
  have hB1 : Below w.heap.size w w1 := HB0.out.trans (hb1.mono (by rw [HS0.out]; omega))
  have hR1 : Row w1 w.heap.size 24 (u8s (List.replicate 32 0)).toArray := HR0.out.below hb1 (by rw [HS0.out]; omega)
  have hz1 : w.heap.size + 1 ≤ w1.heap.size := by have := hb1.size; rw [HS0.out] at this; exact this
  have HO1 := Lib.hid hown
  have HB1 := Lib.hid hB1
  have HR1 := Lib.hid hR1
  have HLP := Lib.hid hL
  clear hL hown hb1 hB1 hR1 HP HB0 HR0 HS0
  have hlN := Lib.hid (show L.length = L.length from rfl)
  obtain ⟨N, hN⟩ : ∃ N, N = L.length := ⟨_, rfl⟩
  rw [← hN] at hsum ⊢
  have HN := Lib.hid hN
  clear hN hlN
  have hpad : (120 - ((N : Int) + 1) % 64) % 64 = ((padLen N : Nat) : Int) := by unfold padLen; omega
  have HPD := Lib.hid hpad
  clear hpad
  go_wp2_with (first | (at_builtin; refine wpList_append_bytes (v := .slice A1 N c1) (l := L) rfl (.tmp 16) (.tmp 17) rfl rfl (by rw [HN.out]; exact HO1.out.alloc _) rfl (bytesIn_one w1 128) (by rw [← HN.out]; omega) (by simp; omega) ?_; rw [← HN.out]; intro A2 c2 w2 hown2 hgrow2 hblk2) | (at_builtin; refine wpList_append_zeros (v := .slice A2 (N + 1) c2) (l := L ++ [128]) rfl (.tmp 19) (.tmp 24) rfl rfl hown2.out (padLen N) (congrArg _ HPD.out) (by rw [List.length_append, ← HN.out]; unfold padLen; simp; omega) (by have := hgrow2.out.size; simp at this; omega) ?_; rw [List.length_append, ← HN.out]; intro A3 c3 w3 hown3 hgrow3 hblk3 hcap3))
  have hb13 : Below (w.heap.size + 1) w1 w3 := (((Below.refl (w.heap.size + 1) w1).alloc hz1 _).grown hgrow2.out (by simp; omega) (fun k e => ((HO1.out.alloc (.cells #[.int .u8 128] 5)).lt k (by rw [← HN.out]; exact e)).1)).grown hgrow3.out (by have := hgrow2.out.size; simp at this; omega) (fun k e => (hown2.out.lt k e).1)
  obtain ⟨D, hD⟩ : ∃ D, D = L ++ [128] ++ List.replicate (padLen N) 0 := ⟨_, rfl⟩
  obtain ⟨T, hT⟩ : ∃ T, T = N + 1 + padLen N := ⟨_, rfl⟩
  have hown4 : OwnB w3 (w.heap.size + 1) (.slice A3 T c3) D := by rw [hT, hD]; exact hown3.out
  have hDT : D.length = T := by
    have := hown4.form
    obtain ⟨_, _, e, _⟩ := this
    injection e with _ e2 _; exact e2.symm
  have hT2 : T ≤ 1099511627776 + 64 := by rw [hT]; unfold padLen; omega
  obtain ⟨M, hM⟩ : ∃ M, M = BitVec.ofNat 64 (N * 8) := ⟨_, rfl⟩
  have hM2 : (N : Int) * 8 = n64 M := by
    have := nat_n64 (N * 8) (by omega)
    rw [hM, ← this]; omega
  rw [← hT, hM2]
  have HB13 := Lib.hid hb13
  have HO4 := Lib.hid hown4
  have HDT := Lib.hid hDT
  have HD := Lib.hid hD
  have HT := Lib.hid hT
  have HM := Lib.hid hM
  clear hown4 hb13 hDT hD hT hM hM2 hgrow2 hgrow3 hblk2 hblk3 hown2 hown3 HPD HO1
  go_loopw [3, 26] (fun v i wr => ∃ (k : Nat) (A4 : Option Addr) (c4 : Nat), k ≤ 8 ∧ i = .int .i64 k ∧ v = .slice A4 (T + k) c4 ∧ OwnB wr (w.heap.size + 1) (.slice A4 (T + k) c4) (D ++ eightTo M k) ∧ Below (w.heap.size + 1) w1 wr) (fun _ i _ => 8 - (intOf i).toNat)
  case atStart => exact ⟨0, A3, c3, by omega, rfl, rfl, by simpa [eightTo] using HO4.out, HB13.out⟩
  case round =>
    obtain ⟨k, A4, c4, hk, rfl, rfl, hown, hbel⟩ := hrel
    by_cases hk8 : k < 8
    · have HO := Lib.hid hown
      have HB := Lib.hid hbel
      have hl : (D ++ eightTo M k).length = T + k := by rw [List.length_append, HDT.out, eightTo_length]
      have HL := Lib.hid hl
      have hsz := hbel.size
      have hsh : 8 * (k : Int) ≤ 56 := by omega
      clear hown hbel hl
      go_wp2_with (first | (at_builtin; refine wpList_append_bytes (v := .slice A4 (T + k) c4) (l := D ++ eightTo M k) rfl (.tmp 29) (.tmp 36) rfl rfl (HO.out.alloc _) rfl (bytesIn_one _ _) (by rw [HL.out]; omega) (by simp; omega) ?_; rw [HL.out]; intro A5 c5 w5 hown5 hgrow5 hblk5))
      go_roundw
      case rel =>
        exact ⟨k + 1, A5, c5, by omega, by go_num, by rw [Nat.add_assoc], by rw [eightTo, ← List.append_assoc]; exact hown5.out,
          (HB.out.alloc (by omega) _).grown hgrow5.out (by simp; omega) (fun q e => ((HO.out.alloc (.cells #[.int .u8 (n8 (UInt8.ofNat (M.toNat >>> (56 - 8 * k))))] 5)).lt q e).1)⟩
      case measure => simp [intOf]; omega
    · obtain rfl : k = 8 := by omega
      obtain ⟨PD, hPD⟩ : ∃ PD, PD = padded L := ⟨_, rfl⟩
      have hpd2 : D ++ eightTo M 8 = PD := by rw [hPD, padded, HD.out, HM.out, HN.out]
      rw [hpd2] at hown
      obtain ⟨m, hm⟩ : ∃ m, m = PD.length / 64 := ⟨_, rfl⟩
      have hpl : PD.length = 64 * m := by rw [hm, hPD]; exact padded_blocks L
      have hT8 : T + 8 = 64 * m := by
        rw [← hpl, ← hpd2, List.length_append, HDT.out, eightTo_length]
      rw [hT8] at hown ⊢
      have hm0 : 0 < m := by omega
      have hm2 : m ≤ 1099511627776 := by omega
      obtain ⟨ga, hga, hgo, hcl, hcm⟩ : ∃ ga, A4 = some ⟨ga, 0, none⟩ ∧ ga < wr.heap.size ∧ (∀ i, i < 64 * m → wr.cell? ⟨ga, i, none⟩ = some (.int .u8 (n8 (PD.getD i 0)))) ∧ 64 * m ≤ c4 := by
        rcases hown.2 with ⟨e, _⟩ | ⟨g, cap, cur, e, _, hg, hn1, _⟩
        · injection e with _ e2; omega
        · injection e with e1 e2 e3
          subst e1
          refine ⟨g, rfl, (Array.getElem?_eq_some_iff.1 hg).1, fun i hi => ?_, by omega⟩
          have := World.ownsRow.cells hown (g := g) rfl i _ (u8s_get PD i (by omega))
          rwa [Addr.add_lit, Nat.zero_add] at this
      subst hga
      have HB := Lib.hid hbel
      have HCL := Lib.hid hcl
      have HPD := Lib.hid hPD
      have HM2 := Lib.hid hm
      have hb6 : Below w.heap.size w wr := HB1.out.trans (hbel.mono (by omega))
      have HK6 : Hid (Consts wr) := HK.out.below hb6
      have HS6 : Hid (Starts wr) := HST.out.below hb6
      have HR6 : Hid (Row wr w.heap.size 24 (u8s (List.replicate 32 0)).toArray) := HR1.out.below hbel (by omega)
      have HB6 := Lib.hid hb6
      have hi8 : (Tryd.prog.info? 88).map (·.size) = some (start.list.map fun x => Value.int .u32 (n32 x)).length := by kernel_rfl
      have HI8 := Lib.hid hi8
      clear hown hbel hcl hPD hm hpl hT8 hpd2 hb6 hi8 HDT HD HT HM HN HB13 HO4 HR1 HB1 hT2 hcap3 hz1
      have hstc : ∀ j v, (start.list.map fun x => Value.int .u32 (n32 x))[j]? = some v → wr.cell? ((⟨0, 0, none⟩ : Addr).add j) = some v := by
        intro j v hj
        have hjl : j < 8 := by have := (List.getElem?_eq_some_iff.1 hj).1; simpa [S8.list] using this
        rw [Addr.add_lit, Nat.zero_add, HS6.out.2 j hjl, ← hj]
        have := words_get start.list j hjl
        rw [← this]; simp [words]
      have HSTC := Lib.hid hstc
      clear hstc
      go_wp2_with (first | (refine wpList_load_cells rfl 88 (.global 0) rfl ⟨0, 0, none⟩ rfl (start.list.map fun x => Value.int .u32 (n32 x)) HSTC.out _ Tryd.underlying88 rfl HI8.out ?_) | (refine wpList_store_new rfl 88 _ _ rfl 88 _ (words start.list) rfl rfl HI8.out rfl (words_one _) ?_) | (go_at_call 48; refine (chunk_make _ _ _ _).mono ?_; rintro e w7 ⟨rfl, rfl⟩))
      refine (wpIn_wide (n := 8)).1 ?_
      obtain ⟨W6, hW6⟩ : ∃ W6, W6 = ((wr.alloc (.cells (words start.list) 88)).alloc (.cells #[.slice (some ⟨ga, 0, none⟩) (64 * m) c4] 22)).alloc (.cells #[.int .i64 64] 3) := ⟨_, rfl⟩
      rw [← hW6]
      have h6s : W6.heap.size = wr.heap.size + 3 := by rw [hW6]; simp
      have h6a : Row W6 wr.heap.size 88 (words start.list) := by rw [hW6]; exact ((Row.new wr _ _).alloc _).alloc _
      have h6b : Row W6 (wr.heap.size + 1) 22 #[.slice (some ⟨ga, 0, none⟩) (64 * m) c4] := by
        have := Row.new (wr.alloc (.cells (words start.list) 88)) 22 #[.slice (some ⟨ga, 0, none⟩) (64 * m) c4]
        rw [World.size_alloc] at this
        rw [hW6]; exact this.alloc _
      have h6c : Row W6 (wr.heap.size + 2) 3 #[.int .i64 64] := by
        have := Row.new ((wr.alloc (.cells (words start.list) 88)).alloc (.cells #[.slice (some ⟨ga, 0, none⟩) (64 * m) c4] 22)) 3 #[.int .i64 64]
        rw [World.size_alloc, World.size_alloc] at this
        rw [hW6]; exact this
      have h6d : Below wr.heap.size wr W6 := by rw [hW6]; exact (((Below.refl _ _).alloc (Nat.le_refl _) _).alloc (by simp) _).alloc (by simp; omega) _
      have H6S := Lib.hid h6s
      have H6A := Lib.hid h6a
      have H6D := Lib.hid h6d
      have h6e : W6.cell? ⟨wr.heap.size + 1, 0, none⟩ = some (.slice (some ⟨ga, 0, none⟩) (64 * m) c4) := h6b.cell 0
      have h6f : W6.cell? ⟨wr.heap.size + 2, 0, none⟩ = some (.int .i64 64) := h6c.cell 0
      have hseq := chunk_stops 7 (by decide) (wr.heap.size + 1) (wr.heap.size + 2) ga c4 m wr.heap.size W6 hcm (by omega) (by omega) (by omega) (by omega) hm2 h6e h6f
      have HSEQ := Lib.hid hseq
      clear hW6 h6s h6a h6b h6c h6d h6e h6f hseq
      refine wpIn_rangeFunc_ownF (F := Fence.wide) (n := 8) (α := Fin m) rfl (by decide) (gf := 73) (lb := #[.pointer (some ⟨wr.heap.size + 1, 0, none⟩), .pointer (some ⟨wr.heap.size + 2, 0, none⟩)]) rfl trivial
        (enters_of Tryd.func73 (by kernel_rfl) rfl) HSEQ.out KeptBut.trans (fun W l o o' h1 h2 h3 h4 => KeptBut.putObj W l o o' h1 h2 h3 h4) (Below.refl _ _) (fun _ => rfl)
        (fun pre W => Row W wr.heap.size 88 (words (stateOver PD pre).list) ∧ Below wr.heap.size W6 W) (fun _ _ _ => False)
        (OwnFrom.and (fun s A B row hs hg hr => Row.of_block hs (hg.block _ hs.lt (fun e => by have := (hr _ e.symm).1; rw [H6S.out] at this; omega))) (ownFrom_below (by rw [H6S.out]; omega) (by rw [H6S.out]; omega)))
        (fun _ _ _ _ _ h _ _ => h) ⟨H6A.out, Below.refl _ _⟩ ?a1 ?assign ?body ?done ?stop
      case assign =>
        intro l x W K hK
        gi_wp2
        exact hK
      case stop => exact fun _ _ _ _ _ _ h _ => h.elim
      case body =>
        rintro l pre x W ⟨hrow, hbel⟩ _
        have hcells : ∀ i, i < 64 → W.cell? ⟨ga, 64 * x.1 + i, none⟩ = some (.int .u8 (n8 ((chunk PD x.1).getD i 0))) := fun i hi => by
          rw [chunk_getD _ _ _ hi]
          exact ((hbel.cell (p := ⟨ga, 64 * x.1 + i, none⟩) hgo).trans (H6D.out.cell (p := ⟨ga, 64 * x.1 + i, none⟩) hgo)).trans (HCL.out _ (by have := x.2; omega))
        have hkW : Consts W := HK6.out.below (H6D.out.trans hbel)
        have hga : ga < W.heap.size := by have := hbel.size; rw [H6S.out] at this; omega
        have HT := Lib.hid (take_any (stateOver PD pre) (chunk PD x.1) wr.heap.size ga (64 * x.1) 64 W (by omega) (by omega) hga hrow hcells hkW)
        have HR := Lib.hid hrow
        have HBL := Lib.hid hbel
        clear hrow hbel hcells hkW
        gi_wp2_with ((refine ⟨trivial, ?_⟩; gi_at_call 49; refine (CallsIn.inRound l (callsIn_wide.2 HT.out)).mono ?_; rintro e w8 ⟨rfl, h1, h2⟩))
        exact ⟨KeepsOthers.of_grownBy h2 (fun j o e ho => by cases e; rw [HR.out] at ho; cases ho; rfl), ⟨h2.size, fun k hk hn => h2.block k (by have := HBL.out.size; omega) (fun e => hn (by injection e))⟩,
          by rw [stateOver_snoc]; exact h1, HBL.out.grown h2 (by have := HBL.out.size; rw [H6S.out] at this; omega) (fun k e => by injection e; omega)⟩
      case done =>
        rintro E xs W hE hxs ⟨hrow, hbel⟩ hdef
        rw [stateOver_all PD xs hxs] at hrow
        obtain ⟨S, hS⟩ : ∃ S, S = (stateTo PD m).list := ⟨_, rfl⟩
        rw [← hS] at hrow
        have hSl : S.length = 8 := by rw [hS]; rfl
        have HS := Lib.hid hS
        have HSL := Lib.hid hSl
        have HDEF := Lib.hid hdef
        have HROW := Lib.hid hrow
        have HBEL := Lib.hid (H6D.out.trans hbel)
        have hEs : wr.heap.size + 3 ≤ E := by rw [H6S.out] at hE; exact hE
        have hWs : wr.heap.size + 3 ≤ W.heap.size := by have := hbel.size; rw [H6S.out] at this; exact this
        clear hS hSl hdef hrow hbel hxs hE
        have hz0 : Row (W.alloc (.cells (u8s (digestTo S 0)).toArray 24)) W.heap.size 24 (u8s (digestTo S 0)).toArray := Row.new _ _ _
        have HZ0 := Lib.hid hz0
        clear hz0
        simp only [Exit.inBlock, Exit.then]
        go_wp2_with fail
        obtain ⟨sb, hsb⟩ : ∃ sb, sb = wr.heap.size := ⟨_, rfl⟩
        have HSB := Lib.hid hsb
        rw [← hsb]
        have HROW2 : Hid (Row W sb 88 (words S)) := by rw [hsb]; exact HROW.out
        have hsbW : sb < W.heap.size := by omega
        clear hsb HROW
        go_loopw [45] (fun i wx => ∃ k : Nat, k ≤ 32 ∧ i = .int .i64 k ∧ Row wx W.heap.size 24 (u8s (digestTo S k)).toArray ∧ Below W.heap.size W wx) (fun i _ => 32 - (intOf i).toNat)
        case atStart => exact ⟨0, by omega, rfl, HZ0.out, (Below.refl _ _).alloc (Nat.le_refl _) _⟩
        case round =>
          obtain ⟨k, hk, rfl, hz, hbx⟩ := hrel
          by_cases hk32 : k < 32
          · obtain ⟨x, hx⟩ : ∃ x, x = S.getD (k / 4) 0 := ⟨_, rfl⟩
            have hsc : wr.cell? ⟨sb, k / 4, none⟩ = some (.int .u32 (n32 x)) := by
              rw [hx]; exact (hbx.cell (p := ⟨sb, k / 4, none⟩) hsbW).trans (HROW2.out.word (by rw [HSL.out]; omega))
            have hzc : wr.cell? ⟨W.heap.size, k, none⟩ = some (.int .u8 (n8 ((digestTo S k).getD k 0))) := by
              rw [hz.cell k]; rw [List.getElem?_toArray]; exact u8s_get _ _ (by rw [digestTo_length]; exact hk32)
            obtain ⟨y, hy⟩ : ∃ y, y = (digestTo S k).getD k 0 := ⟨_, rfl⟩
            rw [← hy] at hzc
            have hzf : wr.frozen? ⟨W.heap.size, k, none⟩ = false := hz.free k
            have hsh : (k : Int) % 4 * 8 ≤ 24 := by omega
            have HZ := Lib.hid hz
            have HBX := Lib.hid hbx
            have HX := Lib.hid hx
            clear hz hbx hx hy
            go_wp2_with fail
            go_roundw
            case rel =>
              refine ⟨k + 1, by omega, by go_num, ?_, HBX.out.setCell (p := ⟨W.heap.size, k, none⟩) (Nat.le_refl _) _⟩
              have := HZ.out.setByte k (UInt8.ofNat (x.toNat >>> (24 - k % 4 * 8)))
              rw [digestTo, ← HX.out]
              exact this
            case measure => simp [intOf]; omega
          · obtain rfl : k = 32 := by omega
            obtain ⟨dg, hdg⟩ : ∃ dg, dg = digestTo S 32 := ⟨_, rfl⟩
            rw [← hdg] at hz
            have hi : (Tryd.prog.info? 24).map (·.size) = some (u8s dg).toArray.size := by
              rw [hdg, List.size_toArray, u8s_length, digestTo_length]; kernel_rfl
            have hsz : (u8s (List.replicate 32 0)).toArray.size = (u8s dg).toArray.size := by
              rw [hdg, List.size_toArray, List.size_toArray, u8s_length, u8s_length, digestTo_length]; rfl
            have hRo : Row wr w.heap.size 24 (u8s (List.replicate 32 0)).toArray := (HR6.out.below HBEL.out HR6.out.lt).below hbx (by have := HR6.out.lt; omega)
            have hRW : w.heap.size < W.heap.size := by have := HR6.out.lt; omega
            have hRE : w.heap.size ≠ E := by have := HR6.out.lt; omega
            have hRE2 : w.heap.size ≤ E := by have := HR6.out.lt; omega
            have hRZ : w.heap.size ≠ W.heap.size := by omega
            have hEW : E < W.heap.size := (Array.getElem?_eq_some_iff.1 HDEF.out).1
            have hdef2 : wr.heap[E]? = some (.deferred (some [])) := (hbx.block E hEW).trans HDEF.out
            have hfin : dg = sha L := by rw [hdg, HS.out, HM2.out, HPD.out]; rfl
            have hbel3 : Below w.heap.size w wr := HB6.out.trans ((HBEL.out.mono (by have := HR6.out.lt; omega)).trans (hbx.mono (by omega)))
            have HZ := Lib.hid hz
            have HRO := Lib.hid hRo
            have HI := Lib.hid hi
            have HD2 := Lib.hid hdef2
            have HF := Lib.hid hfin
            have HB3 := Lib.hid hbel3
            have HSZ := Lib.hid hsz
            clear hz hRo hi hdef2 hfin hbx hdg hbel3 hsz
            go_wp2_with (first | (refine wpList_load_row rfl 24 (.tmp 8) rfl W.heap.size rfl 24 _ (0, 0) _ HZ.out Tryd.underlying24 rfl HI.out ?_) | (refine wpList_store_row rfl 24 (.tmp 2) _ rfl w.heap.size (u8s dg).toArray rfl rfl 24 _ HRO.out HI.out HSZ.out (u8s_all _) ?_))
            have hK3 : (wr.setRow w.heap.size (u8s dg).toArray).heap[E]? = some (.deferred (some [])) := (setRow_other wr w.heap.size E _ (Ne.symm hRE)).trans HD2.out
            have hR3 : Row (wr.setRow w.heap.size (u8s dg).toArray) w.heap.size 24 (u8s dg).toArray := HRO.out.setRowSame _
            have hR4 : Row ((wr.setRow w.heap.size (u8s dg).toArray).putObj E (.deferred none)) w.heap.size 24 (u8s dg).toArray := Row.of_block hR3 (World.putObj_heap_other hRE)
            refine ⟨by simp, .inl ⟨_, _, rfl, run_takeDeferred hK3, ?_⟩⟩
            refine ⟨_, results_cell_row rfl _ _ w.heap.size 24 _ (0, 0) _ rfl hR4 Tryd.underlying24 rfl HI.out, ?_, ?_⟩
            · rw [HF.out, HLP.out]
            · exact (below_setRow HB3.out (Nat.le_refl _) _).grown (grownBy_putObj' _ E _) (by have := HB3.out.size; simpa using this) (fun k e => by injection e with e; rw [← e]; exact hRE2)
end Go.Proofs.YtgejndannlfhkaaDoor
