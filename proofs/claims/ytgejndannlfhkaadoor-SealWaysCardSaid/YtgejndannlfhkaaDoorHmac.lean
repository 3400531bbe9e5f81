/- The walk of hash.Hmac. No condition but sizes. -/
import Derived.Test.YtgejndannlfhkaaDoorParts
import Derived.Deep.DeepCutAuto
import Derived.Deep.CutRange
import Derived.Deep.RegionWith
namespace Go.Proofs.YtgejndannlfhkaaDoor
open Go Go.RowKit Go.Shelf

/-- A key that is no longer than a block. -/
def shortKey (k : List UInt8) : List UInt8 := if 64 < k.length then sha k else k

/-- HMAC. -/
def hmac (k msg : List UInt8) : List UInt8 := sha (changed (shortKey k) 92 ++ sha (changed (shortKey k) 54 ++ msg))

theorem changed_length (l : List UInt8) (x : UInt8) : (changed l x).length = 64 := by simp [changed, block64_length]

theorem bytesIn_row {w : World} {g B : Nat} {T : TypeId} {l : List UInt8} (h : Row w g T (u8s l).toArray) (hg : g < B) : BytesIn w B (some ⟨g, 0, none⟩) l.length l :=
  ⟨rfl, fun _ => ⟨g, 0, rfl, hg, fun i hi => by rw [Nat.zero_add, h.cell i, List.getElem?_toArray, u8s_get l i hi]⟩⟩

theorem sliceOf_row {w : World} {g : Nat} {l : List UInt8} (h : Row w g 5 (u8s l).toArray) (hl : l.length ≤ maxLen) : SliceOf w w.heap.size (.slice (some ⟨g, 0, none⟩) l.length l.length) l :=
  ⟨_, _, _, rfl, Nat.le_refl _, hl, rfl, fun _ => ⟨g, 0, rfl, h.lt, fun i hi => by rw [Nat.zero_add, h.cell i, List.getElem?_toArray, u8s_get l i hi]⟩⟩

/-- A hash stored into an array that was just made. -/
theorem wpList_store_sum {ops : Array Oper} {rest : List Oper} {o : Oper} {a : Act} {w : World} {Q : Exit → Act → World → Prop} (hgd : o.guard = none) (x y : Operand) (ho : o.op = .store 24 x y)
    (c : Array Value) (l : List UInt8) (hl : l.length = 32) (hx : a.eval x = .pointer (some ⟨w.heap.size, 0, none⟩)) (hy : a.eval y = .agg (u8s l).toArray) (hold : c.size = 32)
    (h : wpList Tryd.prog ops Q rest (a.put o.dst undef) (w.alloc (.cells (u8s l).toArray 24))) : wpList Tryd.prog ops Q (o :: rest) a (w.alloc (.cells c 24)) :=
  wpList_store_new hgd 24 x y ho 24 c (u8s l).toArray hx hy (by rw [List.size_toArray, u8s_length, hl]; kernel_rfl) (by rw [hold, List.size_toArray, u8s_length, hl]) (u8s_all _) h

theorem Consts.alloc {w : World} (h : Consts w) (o : Obj) : Consts (w.alloc o) := h.below ((Below.refl _ w).alloc (Nat.le_refl _) o)
theorem Starts.alloc {w : World} (h : Starts w) (o : Obj) : Starts (w.alloc o) := h.below ((Below.refl _ w).alloc (Nat.le_refl _) o)

theorem partsIn_one {W : World} {KA : Option Addr} {kn kc g : Nat} {key : List UInt8} (hb : BytesIn W W.heap.size KA kn key) (hkn : kn ≤ kc) (hkc : kc ≤ maxLen) (hg : g = W.heap.size) :
    PartsIn (W.alloc (.cells #[.slice KA kn kc] 22)) (W.alloc (.cells #[.slice KA kn kc] 22)).heap.size (some ⟨g, 0, none⟩) 1 [key] := by
  subst hg
  have hr := Row.new W 22 #[.slice KA kn kc]
  refine partsIn_of (xs := [.slice KA kn kc]) (ValsIn.of_row hr hr.lt) ⟨⟨KA, kn, kc, rfl, hkn, hkc, ?_⟩, trivial⟩
  exact (hb.alloc (Nat.le_refl _) _).more (by simp)

theorem partsIn_two {W : World} {g1 g2 n1 n2 : Nat} {T1 T2 : TypeId} {l1 l2 : List UInt8} (h1 : Row W g1 T1 (u8s l1).toArray) (h2 : Row W g2 T2 (u8s l2).toArray) (e1 : l1.length = n1) (e2 : l2.length = n2) (m1 : n1 ≤ maxLen) (m2 : n2 ≤ maxLen) :
    PartsIn (W.alloc (.cells #[.slice (some ⟨g1, 0, none⟩) n1 n1, .slice (some ⟨g2, 0, none⟩) n2 n2] 22)) (W.alloc (.cells #[.slice (some ⟨g1, 0, none⟩) n1 n1, .slice (some ⟨g2, 0, none⟩) n2 n2] 22)).heap.size (some ⟨W.heap.size, 0, none⟩) 2 [l1, l2] := by
  obtain ⟨o, ho⟩ : ∃ o : Obj, o = .cells #[.slice (some ⟨g1, 0, none⟩) n1 n1, .slice (some ⟨g2, 0, none⟩) n2 n2] 22 := ⟨_, rfl⟩
  have hr : Row (W.alloc o) W.heap.size 22 #[.slice (some ⟨g1, 0, none⟩) n1 n1, .slice (some ⟨g2, 0, none⟩) n2 n2] := by rw [ho]; exact Row.new W _ _
  rw [← ho]
  have k1 := h1.alloc o
  have k2 := h2.alloc o
  subst e1 e2
  exact partsIn_of (xs := [.slice (some ⟨g1, 0, none⟩) l1.length l1.length, .slice (some ⟨g2, 0, none⟩) l2.length l2.length]) (ValsIn.of_row hr hr.lt) ⟨⟨_, _, _, rfl, Nat.le_refl _, m1, bytesIn_row k1 k1.lt⟩, ⟨_, _, _, rfl, Nat.le_refl _, m2, bytesIn_row k2 k2.lt⟩, trivial⟩

set_option maxRecDepth 100000 in
theorem hmac_any (key : List UInt8) (ps : List (List UInt8)) (KA : Option Addr) (kn kc : Nat) (A : Option Addr) (n c : Nat) (w : World) (hkey : BytesIn w w.heap.size KA kn key) (hkn : kn ≤ kc) (hkc : kc ≤ maxLen) (hkm : kn ≤ 1099511627776) (hn : n ≤ 549755813888) (hp : PartsIn w w.heap.size A n ps)
    (hsum : ps.flatten.length ≤ 549755813888) (hk : Consts w) (hst : Starts w) :
    Calls Tryd.prog 14 #[.slice KA kn kc, .slice A n c] w fun e w' => e = .returned (.agg (u8s (hmac key ps.flatten)).toArray) ∧ Below w.heap.size w w' := by
  have HK := Lib.hid hkey
  have HP := Lib.hid hp
  have HC := Lib.hid hk
  have HS := Lib.hid hst
  clear hkey hp hk hst
  have b1 : (kn : Int) ≤ 1099511627776 := by omega
  go_enter Tryd.func14, Tryd.ntmps14
  have hk1 : ([key].flatten).length ≤ 1099511627776 := by simp; have := HK.out.1; omega
  go_upto_if 9 with (fail)
  obtain ⟨W0, hW0⟩ : ∃ W0 : World, W0 = w.alloc (.cells (u8s (zeros 32)).toArray 24) := ⟨_, rfl⟩
  have hchg : w.alloc (.cells (u8s (zeros 32)).toArray 24) = W0 := hW0.symm
  change Code.wp _ _ _ _ (w.alloc (.cells (u8s (zeros 32)).toArray 24))
  rw [hchg]
  have HB0 : Hid (Below w.heap.size w W0) := by rw [hW0]; exact (Below.refl _ w).alloc (Nat.le_refl _) _
  have HR0 : Hid (Row W0 w.heap.size 24 (u8s (zeros 32)).toArray) := by rw [hW0]; exact Row.new w _ _
  have hs0 : Hid (W0.heap.size = w.heap.size + 1) := show _ = _ by rw [hW0]; simp
  have HK0 : Hid (BytesIn W0 W0.heap.size KA kn key) := (HK.out.below HB0.out).more (by have := hs0.out; omega)
  have HC0 : Hid (Consts W0) := HC.out.below HB0.out
  have HS0 : Hid (Starts W0) := HS.out.below HB0.out
  clear hchg hW0
  go_cut [0, 5] (fun s0 _ wx => ∃ A' n' c', s0 = .slice A' n' c' ∧ BytesIn wx wx.heap.size A' n' (shortKey key) ∧ n' ≤ 64 ∧ (∃ Z : Array Value, Z.size = 32 ∧ Row wx w.heap.size 24 Z) ∧ Below w.heap.size w wx)
  case first =>
    have hsha := sha_any [key] (some ⟨W0.heap.size, 0, none⟩) 1 1 (W0.alloc (.cells #[.slice KA kn kc] 22)) (by omega) (partsIn_one HK0.out hkn hkc rfl) hk1 (HC0.out.alloc _) (HS0.out.alloc _)
    have hone : [key].flatten = key := by simp
    rw [hone] at hsha
    have HSH := Lib.hid hsha
    clear hsha hone
    go_wp2_with (first | ((with_reducible show wpList _ _ _ (⟨none, .store _ _ _, _, _, _, _⟩ :: _) _ _); go_loud (refine wpList_store_sum rfl _ _ rfl _ (sha key) (sha_length _) rfl rfl rfl ?_)) | (go_at_call 12; go_loud (refine HSH.out.mono ?_); rintro e w' ⟨rfl, hb⟩))
    · go_meet
      have hs := hs0.out
      have hsz : W0.heap.size ≤ (W0.alloc (.cells #[.slice KA kn kc] 22)).heap.size := by simp
      have hbw : Below w.heap.size w w' := (HB0.out.alloc (by omega) _).trans (hb.mono (by omega))
      have hbz : Below W0.heap.size W0 w' := ((Below.refl _ W0).alloc (Nat.le_refl _) _).trans (hb.mono hsz)
      have hr := Row.new w' 24 (u8s (sha key)).toArray
      have hby := bytesIn_row hr hr.lt
      rw [sha_length] at hby
      refine ⟨_, 32, 32, rfl, ?_, by omega, ⟨_, by simp [u8s, zeros], (HR0.out.below hbz (by omega)).alloc _⟩, hbw.alloc (by have := hbw.size; omega) _⟩
      rw [shortKey, if_pos (by have := HK.out.1; omega)]
      exact hby
    · go_meet
      have hs := hs0.out
      refine ⟨KA, kn, kc, rfl, ?_, by omega, ⟨_, by simp [u8s, zeros], HR0.out⟩, HB0.out⟩
      rw [shortKey, if_neg (by rw [HK.out.1]; omega)]
      exact HK0.out
  case rest =>
    obtain ⟨A', n', c', rfl, hk', hn', ⟨Z, hZ, hRZ⟩, hbc⟩ := hcut
    have hP := (HP.out.below hbc).more hbc.size
    obtain ⟨xs, hxv, hxs⟩ := hP.vals
    have HK' := Lib.hid hk'
    have HRZ := Lib.hid hRZ
    have HZ := Lib.hid hZ
    have HBC := Lib.hid hbc
    have HXV := Lib.hid hxv
    have HXS := Lib.hid hxs
    have HCc : Hid (Consts wc) := HC.out.below hbc
    have HSc : Hid (Starts wc) := HS.out.below hbc
    clear hk' hZ hRZ hbc hP hxv hxs HB0 HR0 hs0 HK0 HC0 HS0 HK HP HC HS hk1
    go_wp2_with fail
    refine (cloneV_any A n c wc.heap.size xs wc HXV.out HXS.out.one (Nat.le_refl _) (by omega)).mono ?_
    rintro e w1 ⟨A1, c1, rfl, hown1, hb1⟩
    have HO1 := Lib.hid hown1
    have HB1 := Lib.hid hb1
    clear hown1 hb1
    go_wp2_with fail
    refine (changed_any A' n' c' wc.heap.size (shortKey key) 54 w1 (HK'.out.below HB1.out) HB1.out.size (by omega)).mono ?_
    rintro e w2 ⟨rfl, hr2, hb2⟩
    have HR2 := Lib.hid hr2
    have HB2 := Lib.hid hb2
    clear hr2 hb2
    go_wp2_with fail
    have hown3 : ∀ k, (Value.slice A1 n c1).ownBlock = some k → k < w1.heap.size := fun k hk => (HO1.out.lt k hk).2
    have hs1 := HB1.out.size
    have hs2 := HB2.out.size
    have hs3 : (w2.alloc (.cells #[Value.slice (some ⟨w1.heap.size, 0, none⟩) 64 64] 22)).heap.size = w2.heap.size + 1 := by simp
    have hins := insert_any A1 n c1 wc.heap.size w2.heap.size (.slice (some ⟨w1.heap.size, 0, none⟩) 64 64) xs (w2.alloc (.cells #[Value.slice (some ⟨w1.heap.size, 0, none⟩) 64 64] 22)) (by omega)
      ((HO1.out.below HB2.out).alloc _) (Row.new w2 _ _) rfl HXS.out.one (by omega) (.inr fun k hk => by have := hown3 k hk; omega)
    refine hins.mono ?_
    rintro e w4 ⟨A3, c3, rfl, hown4, hg4⟩
    have hb4 : Below wc.heap.size wc w4 := ((HB1.out.trans (HB2.out.mono hs1)).alloc (by omega) _).grown hg4 (by omega) (fun k hk => (HO1.out.lt k hk).1)
    have hr4 : Row w4 w1.heap.size 5 (u8s (changed (shortKey key) 54)).toArray := (HR2.out.alloc _).of_block (hg4.block _ (by have := HR2.out.lt; omega) (fun e => by have := hown3 _ e.symm; omega))
    have hp4 : PartsIn w4 w4.heap.size A3 (xs.length + 1) (changed (shortKey key) 54 :: ps) := by
      refine partsIn_of hown4.vals ⟨?_, (HXS.out.below hb4).more hb4.size⟩
      have := sliceOf_row hr4 (by rw [changed_length]; decide)
      rw [changed_length] at this
      exact this
    have hsum4 : (changed (shortKey key) 54 :: ps).flatten.length ≤ 1099511627776 := by
      rw [List.flatten_cons, List.length_append, changed_length]; omega
    have hsha4 := sha_any (changed (shortKey key) 54 :: ps) A3 (xs.length + 1) c3 w4 (by have := HXV.out.1; omega) hp4 hsum4 (HCc.out.below hb4) (HSc.out.below hb4)
    rw [List.flatten_cons] at hsha4
    have HB4 := Lib.hid hb4
    obtain ⟨inner, hinner⟩ : ∃ inner, inner = sha (changed (shortKey key) 54 ++ ps.flatten) := ⟨_, rfl⟩
    rw [← hinner] at hsha4
    have HSH4 := Lib.hid hsha4
    have HIN := Lib.hid hinner
    have hil : inner.length = 32 := by rw [hinner]; exact sha_length _
    clear hown3 hs1 hs2 hs3 hins hown4 hg4 hb4 hr4 hp4 hsum4 hsha4 HO1 HR2 HB2 HXV HXS hinner
    go_wp2_with (first | ((with_reducible show wpList _ _ _ (⟨none, .store _ _ _, _, _, _, _⟩ :: _) _ _); go_loud (refine wpList_store_sum rfl _ _ rfl _ inner hil rfl rfl rfl ?_)) | (go_at_call 12; go_loud (refine HSH4.out.mono ?_); rintro e w5 ⟨rfl, hb5⟩))
    obtain ⟨W6, hW6⟩ : ∃ W6 : World, W6 = w5.alloc (.cells (u8s inner).toArray 24) := ⟨_, rfl⟩
    rw [← hW6]
    refine wp_region_any (by kernel_rfl) ?_
    change wpAny _ _ _ _ _ _ _ (World.drew _)
    have hs5 : w4.heap.size ≤ w5.heap.size := hb5.size
    have hb6 : Below wc.heap.size wc W6.drew := by
      rw [hW6]
      exact below_drewN ((HB4.out.trans (hb5.mono HB4.out.size)).alloc (by have := HB4.out.size; omega) _) 1
    have hr6 : Row W6.drew w5.heap.size 24 (u8s inner).toArray := by rw [hW6]; exact Row.new w5 _ _
    have HB6 := Lib.hid hb6
    have HR6 := Lib.hid hr6
    clear hb6 hr6 hs5 hW6 hb5 HSH4
    generalize W6.drew = W7 at *
    refine wpAny_take_now 0 (some 21) (.slice A' n' c') rfl rfl (by kernel_rfl) (fun _ _ _ h => h) rfl (fun w => rfl) ?_
    refine wpAny_take_now 2 (some 23) (.slice (some ⟨w5.heap.size, 0, none⟩) 32 32) rfl rfl (by kernel_rfl) (fun _ _ _ h => h) rfl (fun w => by go_simp) ?_
    refine wpAny_of_seqOn [1, 3, 4, 5] [_, _, _, _] _ _ _ rfl (by kernel_rfl) ?_
    go_wp2_with fail
    refine (changed_any A' n' c' wc.heap.size (shortKey key) 92 W7 (HK'.out.below HB6.out) HB6.out.size (by omega)).mono ?_
    rintro e w8 ⟨rfl, hr8, hb8⟩
    have HR8 := Lib.hid hr8
    have HB8 := Lib.hid hb8
    clear hr8 hb8
    rename_i kk1 hkk1
    refine hkk1 _ _ ?_
    clear hkk1 kk1
    go_wp2_with fail
    have hs8 := HB8.out.size
    have hb8 : Below wc.heap.size wc w8 := HB6.out.trans (HB8.out.mono HB6.out.size)
    have hr8 : Row w8 w5.heap.size 24 (u8s inner).toArray := HR6.out.below HB8.out HR6.out.lt
    have hp9 := partsIn_two HR8.out hr8 (changed_length _ _) hil (by decide) (by decide)
    have hsum9 : [changed (shortKey key) 92, inner].flatten.length ≤ 1099511627776 := by
      simp only [List.flatten_cons, List.flatten_nil, List.length_append, changed_length, hil, List.length_nil]; omega
    have hsha9 := sha_any [changed (shortKey key) 92, inner] (some ⟨w8.heap.size, 0, none⟩) 2 2 _ (by omega) hp9 hsum9 ((HCc.out.below hb8).alloc _) ((HSc.out.below hb8).alloc _)
    refine hsha9.mono ?_
    rintro e w10 ⟨rfl, hb10⟩
    have hflat : sha [changed (shortKey key) 92, inner].flatten = hmac key ps.flatten := by
      rw [hmac, ← HIN.out]; simp
    rw [hflat]
    have hb10' : Below wc.heap.size wc w10 := (hb8.alloc (by have := hb8.size; omega) _).trans (hb10.mono (by have := hb8.size; simp; omega))
    have hr10 : Row w10 w.heap.size 24 Z := HRZ.out.below hb10' HRZ.out.lt
    have hb10w : Below w.heap.size w w10 := HBC.out.trans (hb10'.mono HBC.out.size)
    obtain ⟨out, hout⟩ : ∃ out, out = hmac key ps.flatten := ⟨_, rfl⟩
    have hol : out.length = 32 := by rw [hout]; exact sha_length _
    rw [← hout]
    have HR10 := Lib.hid hr10
    have HB10 := Lib.hid hb10w
    have hi32 : (Tryd.prog.info? 24).map (·.size) = some (u8s out).toArray.size := by rw [List.size_toArray, u8s_length, hol]; kernel_rfl
    have hz32 : Z.size = (u8s out).toArray.size := by rw [HZ.out, List.size_toArray, u8s_length, hol]
    have HI := Lib.hid hi32
    have HZ' := Lib.hid hz32
    have HOUT := Lib.hid hout
    clear hs8 hb8 hr8 hp9 hsum9 hsha9 hb10 hflat hb10' hr10 hb10w HR8 HB8 HRZ HBC HB6 HR6 HB4 HIN HCc HSc HB1 HK' hi32 hz32 HZ hout hol
    rename_i kk hkk
    refine hkk _ _ ?_
    refine wpList_store_row rfl 24 _ _ rfl w.heap.size (u8s out).toArray rfl rfl 24 Z HR10.out HI.out HZ'.out (u8s_all _) ?_
    go_wp2_with fail
    exact bodyPost_ret (results_cell_row rfl _ _ w.heap.size 24 _ (0, 0) _ rfl (Row.setRowSame HR10.out _) Tryd.underlying24 rfl HI.out) rfl ⟨by rw [HOUT.out], below_setRow HB10.out (Nat.le_refl _) _⟩
end Go.Proofs.YtgejndannlfhkaaDoor
