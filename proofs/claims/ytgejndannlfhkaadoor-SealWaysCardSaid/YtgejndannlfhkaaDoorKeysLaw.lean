/- The walk of longwirelaw02.HashKeys. -/
import Derived.Test.YtgejndannlfhkaaDoorQuiet
import Derived.Test.YtgejndannlfhkaaDoorGrow
import Derived.Test.YtgejndannlfhkaaDoorOrder
import Derived.Test.YtgejndannlfhkaaDoorRel
import Derived.Deep.DeepCutAuto
import Derived.Deep.CutRange
namespace Go.Proofs.YtgejndannlfhkaaDoor
open Go Go.RowKit Go.Shelf

theorem block64_zeros (l : List UInt8) (m : Nat) (h : l.length + m ≤ 64) : block64 (l ++ List.replicate m 0) = block64 l := by
  have e1 : (l ++ List.replicate m 0).take 64 = l ++ List.replicate m 0 := List.take_of_length_le (by simp; omega)
  have e2 : l.take 64 = l := List.take_of_length_le (by omega)
  rw [block64, block64, e1, e2, List.append_assoc, List.length_append, List.length_replicate, List.replicate_append_replicate]
  congr 2; omega
theorem shortKey_length (k : List UInt8) : (shortKey k).length ≤ 64 := by
  rw [shortKey]; split
  · rw [sha_length]; omega
  · omega
theorem shortKey_short (k : List UInt8) (h : k.length ≤ 64) : shortKey k = k := by rw [shortKey, if_neg (by omega)]
theorem hmac_zeros (k b : List UInt8) (m : Nat) (h : (shortKey k).length + m ≤ 64) : hmac (shortKey k ++ List.replicate m 0) b = hmac k b := by
  rw [hmac, hmac, shortKey_short _ (by simp; omega), changed, changed, changed, changed, block64_zeros _ _ h]
theorem hmac_two (k b : List UInt8) (m : Nat) (h : (shortKey k).length + m ≤ 64) (wide : List UInt8) (hw : wide = (shortKey k ++ List.replicate m 0) ++ List.replicate (64 - ((shortKey k).length + m)) 0) :
    sha (wide.map (· ^^^ 92) ++ sha (wide.map (· ^^^ 54) ++ b)) = hmac k b := by
  have e : wide = block64 (shortKey k) := by
    rw [hw, ← block64_zeros _ m h, block64, List.take_of_length_le (by simp; omega)]
    congr 2; simp
  rw [e, hmac, changed, changed]

/-- Zeros of which the first k are a row's bytes, changed. -/
def fillTo (l : List UInt8) (x : UInt8) : Nat → List UInt8
  | 0 => zeros 64
  | k + 1 => (fillTo l x k).set k (l.getD k 0 ^^^ x)
theorem fillTo_length (l : List UInt8) (x : UInt8) : ∀ k, (fillTo l x k).length = 64
  | 0 => by simp [fillTo, zeros]
  | k + 1 => by rw [fillTo, List.length_set]; exact fillTo_length l x k
theorem fillTo_get (l : List UInt8) (x : UInt8) : ∀ k i, i < k → i < 64 → (fillTo l x k)[i]? = some (l.getD i 0 ^^^ x)
  | 0, _, h, _ => absurd h (by omega)
  | k + 1, i, h, h2 => by
    rw [fillTo]
    by_cases e : k = i
    · subst e; rw [List.getElem?_set_self (by rw [fillTo_length]; exact h2)]
    · rw [List.getElem?_set_ne e]; exact fillTo_get l x k i (by omega) h2
theorem fillTo_all (l : List UInt8) (x : UInt8) (h : l.length = 64) : fillTo l x 64 = l.map (· ^^^ x) := by
  apply List.ext_getElem?
  intro i
  by_cases hi : i < 64
  · rw [fillTo_get l x 64 i hi hi, List.getElem?_map, List.getElem?_eq_getElem (by omega)]
    simp [List.getD, List.getElem?_eq_getElem (show i < l.length by omega)]
  · rw [List.getElem?_eq_none (by rw [fillTo_length]; omega), List.getElem?_eq_none (by simp; omega)]

theorem bytesIn_rowN {w : World} {g : Nat} {T : TypeId} {l : List UInt8} {n : Nat} (h : Row w g T (u8s l).toArray) (hn : l.length = n) : BytesIn w w.heap.size (some ⟨g, 0, none⟩) n l := by
  subst hn; exact bytesIn_row h h.lt
/-- A whole array, loaded. -/
theorem run_load_whole {P : Program} {w : World} {g : Nat} {t ty : TypeId} {cs : Array Value} {u : TypeDesc} {ρ : Operand → Value} {o : Oper} {x : Operand} (h : Row w g t cs) (hu : P.underlying ty = some u) (hd' : (match u with | .struct _ | .array _ _ => true | _ => false) = true)
    (hi : (P.info? ty).map (·.size) = some cs.size) (ho : o.op = .load ty x) (hx : ρ x = .pointer (some ⟨g, 0, none⟩)) : (execOp ρ o).run P w = .ok (.value (.agg cs)) w := by
  have := run_loadVar_row (P := P) w g t ty cs (0, 0) u h hu hd' hi
  unfold execOp
  simp only [ho, hx, Instr.loadAt, Instr.sureAddr, Sem.run_bind, Sem.run_pure, Result.andThen_ok, this]
/-- A slice of slices of bytes, just made. -/
theorem parts_new (w : World) (T : TypeId) (xs : List Value) (ps : List (List UInt8)) (h : SlicesOf w w.heap.size xs ps) : PartsIn (w.alloc (.cells xs.toArray T)) (w.alloc (.cells xs.toArray T)).heap.size (some ⟨w.heap.size, 0, none⟩) xs.length ps :=
  partsIn_of (ValsIn.of_row (xs := xs) (Row.new w T _) (Row.new w T _).lt) ((h.below ((Below.refl _ w).alloc (Nat.le_refl _) _)).more (Grows.alloc w _).size)
theorem sliceOf_bytes {w : World} {A : Option Addr} {m c : Nat} {l : List UInt8} (h : BytesIn w w.heap.size A m l) (h1 : m ≤ c) (h2 : c ≤ maxLen) : SliceOf w w.heap.size (.slice A m c) l := ⟨A, m, c, rfl, h1, h2, h⟩

set_option maxRecDepth 100000 in
set_option maxHeartbeats 4000000 in
theorem keys_walk (key b : List UInt8) (z : UInt8) (KA : Option Addr) (kn kc : Nat) (BA : Option Addr) (bn bc : Nat) (w : World) (hkey : BytesIn w w.heap.size KA kn key) (hkn : kn ≤ kc) (hkc : kc ≤ maxLen) (hb : BytesIn w w.heap.size BA bn b) (hbn : bn ≤ bc) (hbc : bc ≤ maxLen) (hk : Consts w) (hst : Starts w) :
    Calls Tryd.prog 5 #[.slice KA kn kc, .slice BA bn bc, .int .u8 (n8 z)] w fun e w' => e = .returned (.bool true) ∧ Below w.heap.size w w' := by
  obtain ⟨zn, hzn, hz⟩ : ∃ zn : Nat, n8 z = (zn : Int) ∧ zn < 256 := ⟨z.toNat, rfl, z.toNat_lt⟩
  rw [hzn]
  clear hzn
  have z1 : (zn : Int) < 256 := by omega
  obtain ⟨km, hkm⟩ : ∃ km, km = min kn 150 := ⟨_, rfl⟩
  obtain ⟨bm, hbm⟩ : ∃ bm, bm = min bn 150 := ⟨_, rfl⟩
  have HK : Hid (BytesIn w w.heap.size KA km (key.take km)) := hkey.take _ (by omega)
  have HB : Hid (BytesIn w w.heap.size BA bm (b.take bm)) := hb.take _ (by omega)
  have HC := Lib.hid hk
  have HS := Lib.hid hst
  have HKM := Lib.hid hkm
  have HBM := Lib.hid hbm
  have hkm2 : km ≤ 150 := by omega
  have hbm2 : bm ≤ 150 := by omega
  have b5 : (km : Int) ≤ kc := by omega
  have b6 : (bm : Int) ≤ bc := by omega
  clear hkey hb hk hst hkm hbm
  have b1 : (kn : Int) ≤ kc := by omega
  have b2 : (kc : Int) ≤ 9223372036854775807 := by unfold maxLen at hkc; omega
  have b3 : (bn : Int) ≤ bc := by omega
  have b4 : (bc : Int) ≤ 9223372036854775807 := by unfold maxLen at hbc; omega
  go_enter Tryd.func5, Tryd.ntmps5
  go_wp2_with fail
  refine wp_region_alike (by kernel_rfl) (by kernel_rfl) ?_
  go_simp
  refine q_move (some 16) (.slice KA kn kc) _ rfl rfl rfl rfl ?_
  go_simp
  refine q_move (some 17) (.slice KA kn kc) _ rfl rfl rfl rfl ?_
  go_simp
  refine q_val (some 18) (.int .i64 (kn : Int)) rfl rfl (fun w _ => by go_simp) ?_
  go_simp
  refine q_val (some 19) (.int .i64 (km : Int)) rfl rfl (fun w _ => by go_simp; have := HKM.out; split <;> omega) ?_
  go_simp
  refine q_val (some 20) (.slice KA km kc) rfl rfl (fun w _ => by go_simp) ?_
  go_simp
  refine q_move (some 21) (.slice BA bn bc) _ rfl rfl rfl rfl ?_
  go_simp
  refine q_move (some 22) (.slice BA bn bc) _ rfl rfl rfl rfl ?_
  go_simp
  refine q_val (some 23) (.int .i64 (bn : Int)) rfl rfl (fun w _ => by go_simp) ?_
  go_simp
  refine q_val (some 24) (.int .i64 (bm : Int)) rfl rfl (fun w _ => by go_simp; have := HBM.out; split <;> omega) ?_
  go_simp
  refine q_val (some 25) (.slice BA bm bc) rfl rfl (fun w _ => by go_simp) ?_
  go_simp
  refine q_assign (some 0) (.slice KA km kc) _ rfl rfl rfl rfl ?_
  go_simp
  refine q_assign (some 1) (.slice BA bm bc) _ rfl rfl rfl rfl ?_
  go_simp
  refine wpQuiet_nil ?_
  intro w1 hw1
  have HK1 : Hid (BytesIn w1 w1.heap.size KA km (key.take km)) := (HK.out.below hw1).more hw1.size
  have HB1 : Hid (BytesIn w1 w1.heap.size BA bm (b.take bm)) := (HB.out.below hw1).more hw1.size
  have HC1 : Hid (Consts w1) := HC.out.below hw1
  have HS1 : Hid (Starts w1) := HS.out.below hw1
  have HW1 : Hid (Below w.heap.size w w1) := hw1
  obtain ⟨k1, hk1⟩ : ∃ k1, k1 = key.take km := ⟨_, rfl⟩
  obtain ⟨bb, hbb⟩ : ∃ bb, bb = b.take bm := ⟨_, rfl⟩
  rw [← hk1] at HK1
  rw [← hbb] at HB1
  have hkl : k1.length = km := HK1.out.1
  have hbl : bb.length = bm := HB1.out.1
  have HKL := Lib.hid hkl
  have HBL := Lib.hid hbl
  clear HK HB HC HS hw1 hk1 hbb hkl hbl HKM HBM
  have hmac1 := hmac_any k1 [bb] KA km kc (some ⟨w1.heap.size, 0, none⟩) 1 1 (w1.alloc (.cells #[.slice BA bm bc] 22)) ((HK1.out.alloc (Nat.le_refl _) _).more (by simp)) (by omega) hkc (by omega) (by omega) (partsIn_one HB1.out (by omega) hbc rfl) (by simp; have := HBL.out; omega) (HC1.out.alloc _) (HS1.out.alloc _)
  rw [show [bb].flatten = bb by simp] at hmac1
  obtain ⟨want, hwant⟩ : ∃ want, want = hmac k1 bb := ⟨_, rfl⟩
  rw [← hwant] at hmac1
  have hwl : want.length = 32 := by rw [hwant]; exact sha_length _
  have HM1 := Lib.hid hmac1
  have HWA := Lib.hid hwant
  clear hmac1 hwant
  go_wp2_with (first | ((with_reducible show wpList _ _ _ (⟨none, .store _ _ _, _, _, _, _⟩ :: _) _ _); go_loud (refine wpList_store_sum rfl _ _ rfl _ want hwl rfl rfl rfl ?_)) | (go_at_call 14; go_loud (refine HM1.out.mono ?_); rintro e w2 ⟨rfl, hb2⟩))
  obtain ⟨g7, hg7⟩ : ∃ g7, g7 = w2.heap.size := ⟨_, rfl⟩
  obtain ⟨W3, hW3⟩ : ∃ W3 : World, W3 = w2.alloc (.cells (u8s want).toArray 24) := ⟨_, rfl⟩
  have hr3 : Row W3 g7 24 (u8s want).toArray := by rw [hW3, hg7]; exact Row.new w2 _ _
  have hb3 : Below w1.heap.size w1 W3 := by
    rw [hW3]
    have hs2 : w1.heap.size ≤ w2.heap.size := by have := hb2.size; simp at this; omega
    exact (((Below.refl _ w1).alloc (Nat.le_refl _) _).trans (hb2.mono (by simp))).alloc hs2 _
  rw [← hW3, ← hg7]
  have HR3 := Lib.hid hr3
  have HB3 := Lib.hid hb3
  have HK3 : Hid (BytesIn W3 W3.heap.size KA km k1) := (HK1.out.below hb3).more hb3.size
  have HBB3 : Hid (BytesIn W3 W3.heap.size BA bm bb) := (HB1.out.below hb3).more hb3.size
  have HC3 : Hid (Consts W3) := HC1.out.below hb3
  have HS3 : Hid (Starts W3) := HS1.out.below hb3
  have HW3 : Hid (Below w.heap.size w W3) := HW1.out.trans (hb3.mono HW1.out.size)
  clear hW3 hg7 hr3 hb3 hb2 HM1 HK1 HB1 HC1 HS1 HW1 HB3
  refine (cloneB_any KA km kc W3.heap.size k1 W3 HK3.out (Nat.le_refl _) (by omega)).mono ?_
  rintro e w4 ⟨A4, c4, rfl, hown4, hb4⟩
  have HO4 := Lib.hid hown4
  have HB4 := Lib.hid hb4
  clear hown4 hb4
  go_upto_if 34 with (fail)
  go_cut [8, 9] (fun s8 _ wx => ∃ Ao co, s8 = .slice Ao (shortKey k1).length co ∧ OwnG wx W3.heap.size s8 (shortKey k1) ∧ Below W3.heap.size W3 wx)
  case first =>
    have hsha := sha_any [k1] (some ⟨w4.heap.size, 0, none⟩) 1 1 (w4.alloc (.cells #[.slice KA km kc] 22)) (by omega) (partsIn_one ((HK3.out.below HB4.out).more HB4.out.size) (by omega) hkc rfl) (by simp; have := HKL.out; omega) ((HC3.out.below HB4.out).alloc _) ((HS3.out.below HB4.out).alloc _)
    rw [show [k1].flatten = k1 by simp] at hsha
    have HSH := Lib.hid hsha
    clear hsha
    go_wp2_with (first | ((with_reducible show wpList _ _ _ (⟨none, .store _ _ _, _, _, _, _⟩ :: _) _ _); go_loud (refine wpList_store_sum rfl _ _ rfl _ (sha k1) (sha_length _) rfl rfl rfl ?_)) | (go_at_call 12; go_loud (refine HSH.out.mono ?_); rintro e w5 ⟨rfl, hb5⟩))
    · go_meet
      have hlong : shortKey k1 = sha k1 := by rw [shortKey, if_pos (by have := HKL.out; omega)]
      have hs4 := HB4.out.size
      have hs5 : w4.heap.size ≤ w5.heap.size := by have := hb5.size; simp at this; omega
      rw [hlong, sha_length]
      refine ⟨some ⟨w5.heap.size, 0, none⟩, 32, rfl, .inr ⟨w5.heap.size, 24, by rw [sha_length], by omega, Row.new w5 _ _, by rw [sha_length]; decide⟩, ?_⟩
      exact (HB4.out.trans ((((Below.refl _ w4).alloc (Nat.le_refl _) _).trans (hb5.mono (by simp))).mono hs4)).alloc (by omega) _
    · go_meet
      have hshort : shortKey k1 = k1 := by rw [shortKey, if_neg (by have := HKL.out; omega)]
      rw [hshort, HKL.out]
      exact ⟨A4, c4, rfl, .inl HO4.out, HB4.out⟩
  case rest =>
  obtain ⟨Ao, co, rfl, hown, hbc5⟩ := hcut
  obtain ⟨sk, hsk⟩ : ∃ sk, sk = shortKey k1 := ⟨_, rfl⟩
  have hskl : sk.length ≤ 64 := by rw [hsk]; exact shortKey_length k1
  rw [← hsk] at hown
  rw [← hsk]
  have HSK := Lib.hid hsk
  have HO := Lib.hid hown
  have HB := Lib.hid hbc5
  clear hsk hown hbc5 HO4 HB4
  have s1 : (sk.length : Int) ≤ 64 := by omega
  have s2 : (0 : Int) ≤ sk.length := by omega
  obtain ⟨m, hm⟩ : ∃ m : Nat, m = zn % (65 - sk.length) := ⟨_, rfl⟩
  have hm2 : sk.length + m ≤ 64 := by
    have : m < 65 - sk.length := by rw [hm]; exact Nat.mod_lt _ (by omega)
    omega
  have hm3 : Value.int .i64 ((zn : Int) % (65 - (sk.length : Int))) = .int .i64 (m : Int) := by
    have e : (65 - (sk.length : Int)) = ((65 - sk.length : Nat) : Int) := by omega
    rw [hm, e]; rfl
  have HM := Lib.hid hm3
  have hs5 := HB.out.size
  clear hm hm3
  go_wp2_with (at_builtin; go_loud (refine wpList_append_zeros' (v := .slice Ao sk.length co) rfl (.tmp 39) (.tmp 45) rfl rfl HO.out m (by exact HM.out) (by omega) hs5 ?_); intro A6 c6 w6 hown6 hgrow6)
  obtain ⟨own2, ho2⟩ : ∃ own2, own2 = sk ++ List.replicate m 0 := ⟨_, rfl⟩
  obtain ⟨ol, hol⟩ : ∃ ol, ol = sk.length + m := ⟨_, rfl⟩
  have hol2 : own2.length = ol := by rw [ho2, hol]; simp
  have hown6' : OwnG w6 W3.heap.size (.slice A6 ol c6) own2 := by rw [ho2, hol]; exact hown6.out
  have hb6 : Below W3.heap.size W3 w6 := HB.out.grown hgrow6.out hs5 (fun k hk => (HO.out.lt k hk).1)
  rw [← hol]
  have hol3 : ol ≤ 64 := by omega
  have hwant2 : hmac own2 bb = want := by rw [ho2, HSK.out, HWA.out]; exact hmac_zeros k1 bb m (by rw [← HSK.out]; exact hm2)
  obtain ⟨hc6, hc6m⟩ : ol ≤ c6 ∧ c6 ≤ maxLen := by
    obtain ⟨A', c', e, h1, h2⟩ := hown6'.form
    injection e with e1 e2 e3
    subst e3; exact ⟨by omega, h2⟩
  have HO2 := Lib.hid ho2
  have HOL := Lib.hid hol2
  have HOM := Lib.hid hol
  have HO6 := Lib.hid hown6'
  have HB6 := Lib.hid hb6
  have HW2 := Lib.hid hwant2
  have HR6 : Hid (Row w6 g7 24 (u8s want).toArray) := HR3.out.below hb6 HR3.out.lt
  have HBB6 : Hid (BytesIn w6 w6.heap.size BA bm bb) := (HBB3.out.below hb6).more hb6.size
  have HC6 : Hid (Consts w6) := HC3.out.below hb6
  have HS6 : Hid (Starts w6) := HS3.out.below hb6
  have hiw : (Tryd.prog.info? 24).map (·.size) = some (u8s want).toArray.size := by rw [List.size_toArray, u8s_length, hwl]; kernel_rfl
  have HIW := Lib.hid hiw
  have eqw : ∀ w, (Op.equalIn 10000 24 (.agg (u8s want).toArray) (.agg (u8s want).toArray)).run Tryd.prog w = .ok true w := fun w => by
    have := run_equalIn_bytes (P := Tryd.prog) w 9998 24 5 32 Tryd.underlying24 Tryd.underlying5 (fun w => by kernel_rfl) want want hwl hwl
    rwa [show (want == want) = true by simp] at this
  have hne : ∀ w, (binOp .neq 24 (.agg (u8s want).toArray) (.agg (u8s want).toArray)).run Tryd.prog w = .ok (.bool false) w := fun w => by
    rw [run_neq_struct, eqw w]; rfl
  have heq : ∀ w, (binOp .eql 24 (.agg (u8s want).toArray) (.agg (u8s want).toArray)).run Tryd.prog w = .ok (.bool true) w := fun w => by
    rw [run_eql_struct, eqw w]; rfl
  have HBB3' := HBB3
  have HC3' := HC3
  have HS3' := HS3
  have HG7 : Hid (g7 < W3.heap.size) := HR3.out.lt
  clear hown6 hgrow6 HO HB hs5 HM s1 s2 ho2 hol hol2 hown6' hb6 hwant2 hiw eqw HR3 HK3 HBB3 HC3 HS3
  go_cut [52] (fun s52 wx => s52 = .bool false ∧ Below w6.heap.size w6 wx)
  case first =>
    obtain ⟨w7, hw7⟩ : ∃ w7 : World, w7 = w6.drew := ⟨_, rfl⟩
    have b67 : Below w6.heap.size w6 w7 := by rw [hw7]; exact below_drewN (Below.refl _ w6) 1
    have s67 := b67.size
    have hmac6 := hmac_any own2 [bb] A6 ol c6 (some ⟨w7.heap.size, 0, none⟩) 1 1 (w7.alloc (.cells #[.slice BA bm bc] 22)) (((HO6.out.bytes.below b67).more s67).alloc (Nat.le_refl _) _ |>.more (by simp)) (by omega) hc6m (by omega) (by omega) (partsIn_one ((HBB6.out.below b67).more s67) (by omega) hbc rfl) (by simp; have := HBL.out; omega) ((HC6.out.below b67).alloc _) ((HS6.out.below b67).alloc _)
    rw [show [bb].flatten = bb by simp, HW2.out] at hmac6
    have HM6 := Lib.hid hmac6
    have HRB : Hid (Row w7 g7 24 (u8s want).toArray) := HR6.out.below b67 HR6.out.lt
    have HRA : Hid (Row (w7.alloc (.cells #[.slice BA bm bc] 22)) g7 24 (u8s want).toArray) := HRB.out.alloc _
    have HB8 : Hid (Below w6.heap.size w6 (w7.alloc (.cells #[.slice BA bm bc] 22))) := b67.alloc s67 _
    have HS67 : Hid (w6.heap.size ≤ (w7.alloc (.cells #[.slice BA bm bc] 22)).heap.size) := HB8.out.size
    have HW7 := Lib.hid hw7
    clear hmac6 b67 s67 hw7
    refine wp_region_any (by kernel_rfl) ?_
    change wpAny _ _ _ _ _ _ _ (World.drew _)
    rw [← HW7.out]
    clear HW7
    refine wpAny_take_now 0 (some 47) (.slice A6 ol c6) rfl rfl (by kernel_rfl) (fun _ _ _ h => h) rfl (fun w => rfl) ?_
    refine wpAny_take_now 1 (some 48) (.slice BA bm bc) rfl rfl (by kernel_rfl) (fun _ _ _ h => h) rfl (fun w => rfl) ?_
    refine wpAny_two 2 4 (by kernel_rfl) ?_ ?_
    · refine wpOp_run (some 49) (.slice (some ⟨w7.heap.size, 0, none⟩) 1 1) (w7.alloc (.cells #[.slice BA bm bc] 22)) rfl rfl rfl (by go_simp) ?_
      refine wpAny_two 3 4 (by kernel_rfl) ?_ ?_
      · refine wpOp_forced 3 [4, 5] [_, _] _ rfl rfl rfl (by kernel_rfl) ?_
        simp only [List.getElem_toArray, List.getElem_cons_succ, List.getElem_cons_zero]
        go_wp2_with (go_at_call 14; go_loud (refine HM6.out.mono ?_); rintro e w9 ⟨rfl, hb9⟩; rename_i kk hkk; refine hkk _ _ ?_; clear hkk; refine wpList_load_row rfl 24 _ rfl g7 rfl 24 _ (0, 0) _ (HRA.out.below hb9 HRA.out.lt) Tryd.underlying24 rfl HIW.out ?_)
        go_meet
        exact ⟨rfl, HB8.out.trans (hb9.mono HS67.out)⟩
      · refine wpOp_forced 4 [3, 5] [_, _] _ rfl rfl rfl (by kernel_rfl) ?_
        simp only [List.getElem_toArray, List.getElem_cons_succ, List.getElem_cons_zero]
        refine wpList_load_row rfl 24 _ rfl g7 rfl 24 _ (0, 0) _ HRA.out Tryd.underlying24 rfl HIW.out ?_
        go_wp2_with (go_at_call 14; go_loud (refine HM6.out.mono ?_); rintro e w9 ⟨rfl, hb9⟩)
        go_meet
        exact ⟨rfl, HB8.out.trans (hb9.mono HS67.out)⟩
    · refine wpOp_forced 4 [2, 3, 5] [_, _, _] _ rfl rfl rfl (by kernel_rfl) ?_
      simp only [List.getElem_toArray, List.getElem_cons_succ, List.getElem_cons_zero]
      refine wpList_load_row rfl 24 _ rfl g7 rfl 24 _ (0, 0) _ HRB.out Tryd.underlying24 rfl HIW.out ?_
      go_wp2_with (go_at_call 14; go_loud (refine HM6.out.mono ?_); rintro e w9 ⟨rfl, hb9⟩)
      go_meet
      exact ⟨rfl, HB8.out.trans (hb9.mono HS67.out)⟩
  case rest =>
  obtain ⟨rfl, hbw⟩ := hcut
  have HEQ := Lib.hid heq
  clear hne heq
  have HB7 := Lib.hid hbw
  have HR7 : Hid (Row wc g7 24 (u8s want).toArray) := HR6.out.below hbw HR6.out.lt
  have HO7 : Hid (OwnG wc W3.heap.size (.slice A6 ol c6) own2) := HO6.out.below hbw
  have HBB7 : Hid (BytesIn wc wc.heap.size BA bm bb) := (HBB6.out.below hbw).more hbw.size
  have HC7 : Hid (Consts wc) := HC6.out.below hbw
  have HS7 : Hid (Starts wc) := HS6.out.below hbw
  have HBW7 : Hid (Below W3.heap.size W3 wc) := HB6.out.trans (hbw.mono HB6.out.size)
  clear hbw HR6 HO6 HBB6 HC6 HS6 HB6
  have t1 : (ol : Int) ≤ 64 := by omega
  obtain ⟨q, hq⟩ : ∃ q : Nat, q = 64 - ol := ⟨_, rfl⟩
  have h64 : (64 - (ol : Int)) = (q : Int) := by omega
  have hm64 : Value.int .i64 (64 - (ol : Int)) = .int .i64 (q : Int) := by rw [h64]
  have HM64 := Lib.hid hm64
  have HQ := Lib.hid hq
  have hs7 := HBW7.out.size
  have hol4 : own2.length + q ≤ 70368744177664 := by have := HOL.out; omega
  clear hm64 h64 hq
  go_wp2_with ((with_reducible show wpList _ _ _ (⟨some 57, _, _, _, _, _⟩ :: _) _ _); refine wpList_append_zeros' (v := .slice A6 ol c6) rfl (.tmp 53) (.tmp 56) rfl rfl HO7.out q ?_ hol4 hs7 ?_; exact HM64.out; intro Aw cw w10 hown10 hgrow10)
  have hw64 : own2.length + q = 64 := by have := HOL.out; have := HQ.out; omega
  obtain ⟨wide, hwide⟩ : ∃ wide, wide = own2 ++ List.replicate q 0 := ⟨_, rfl⟩
  have hown10' : OwnG w10 W3.heap.size (.slice Aw 64 cw) wide := by rw [hwide, ← hw64]; exact hown10.out
  have hwidel : wide.length = 64 := by rw [hwide, ← hw64]; simp
  have hb10 : Below W3.heap.size W3 w10 := HBW7.out.grown hgrow10.out hs7 (fun k hk => (HO7.out.lt k hk).1)
  have hfin : sha (wide.map (· ^^^ 92) ++ sha (wide.map (· ^^^ 54) ++ bb)) = want := by
    rw [HWA.out]
    refine hmac_two k1 bb m (by rw [← HSK.out]; exact hm2) wide ?_
    have hq : q = 64 - ((shortKey k1).length + m) := by rw [HQ.out, HOM.out, HSK.out]
    rw [hwide, HO2.out, HSK.out, hq]
  have hcw : 64 ≤ cw ∧ cw ≤ maxLen := by
    obtain ⟨A', c', e, h1, h2⟩ := hown10'.form
    injection e with e1 e2 e3
    subst e3; exact ⟨by omega, h2⟩
  rw [hw64]
  have HO10 := Lib.hid hown10'
  have HWL := Lib.hid hwidel
  have HB10 := Lib.hid hb10
  have HFIN := Lib.hid hfin
  have HR10 : Hid (Row w10 g7 24 (u8s want).toArray) := by
    have := HR7.out
    exact this.of_block (hgrow10.out.block g7 this.lt (fun e => by
      have h1 := (HO7.out.lt g7 e.symm).1
      have h2 := HG7.out
      omega))
  have HBB10 : Hid (BytesIn w10 w10.heap.size BA bm bb) := (HBB3'.out.below hb10).more hb10.size
  have HC10 : Hid (Consts w10) := HC3'.out.below hb10
  have HS10 : Hid (Starts w10) := HS3'.out.below hb10
  clear hw64 hwide hown10' hwidel hb10 hfin hown10 hgrow10 HO7 HBB7 HC7 HS7 HR7 HBW7 HB7 hol4 hs7 HM64 HQ HO2 HOL HOM HW2 t1
  go_cut [11, 12] (fun s11 s12 wx => ∃ ga gb, s11 = .slice (some ⟨ga, 0, none⟩) 64 64 ∧ s12 = .slice (some ⟨gb, 0, none⟩) 64 64 ∧ ga ≠ gb ∧ w10.heap.size ≤ ga ∧ w10.heap.size ≤ gb ∧ Row wx ga 5 (u8s (zeros 64)).toArray ∧ Row wx gb 5 (u8s (zeros 64)).toArray ∧ Below w10.heap.size w10 wx)
  case first =>
    obtain ⟨w11, hw11⟩ : ∃ w11 : World, w11 = w10.drew := ⟨_, rfl⟩
    have b11 : Below w10.heap.size w10 w11 := by rw [hw11]; exact below_drewN (Below.refl _ w10) 1
    have HW11 := Lib.hid hw11
    have HB11 := Lib.hid b11
    have HZ1 : Hid (Row ((w11.alloc (.cells (u8s (zeros 64)).toArray 5)).alloc (.cells (u8s (zeros 64)).toArray 5)) w11.heap.size 5 (u8s (zeros 64)).toArray) := (Row.new w11 _ _).alloc _
    have HZ2 : Hid (Row ((w11.alloc (.cells (u8s (zeros 64)).toArray 5)).alloc (.cells (u8s (zeros 64)).toArray 5)) (w11.heap.size + 1) 5 (u8s (zeros 64)).toArray) := by
      have := Row.new (w11.alloc (.cells (u8s (zeros 64)).toArray 5)) 5 (u8s (zeros 64)).toArray
      exact (show Row _ _ _ _ by simpa using this)
    have HBZ : Hid (Below w10.heap.size w10 ((w11.alloc (.cells (u8s (zeros 64)).toArray 5)).alloc (.cells (u8s (zeros 64)).toArray 5))) := (b11.alloc b11.size _).alloc (by have := b11.size; simp; omega) _
    have HSZ11 : Hid (w10.heap.size ≤ w11.heap.size) := b11.size
    clear hw11 b11
    refine wp_region_any (by kernel_rfl) ?_
    change wpAny _ _ _ _ _ _ _ (World.drew _)
    rw [← HW11.out]
    clear HW11
    refine wpAny_two 0 1 (by kernel_rfl) ?_ ?_
    · refine wpOp_run (some 58) (.slice (some ⟨w11.heap.size, 0, none⟩) 64 64) (w11.alloc (.cells (u8s (zeros 64)).toArray 5)) rfl rfl rfl (by go_simp; exact (congrArg (fun r => Result.andThen r _) (run_make_bytes 64 (by decide) w11)).trans rfl) ?_
      refine wpAny_two 1 2 (by kernel_rfl) ?_ ?_
      · refine wpOp_forced 1 [2, 3] [_, _] _ rfl rfl rfl (by kernel_rfl) ?_
        simp only [List.getElem_toArray, List.getElem_cons_succ, List.getElem_cons_zero]
        go_wp2_with (at_make; refine wpList_make_bytes rfl _ _ rfl 64 rfl rfl (by decide) ?_)
        go_meet
        exact ⟨w11.heap.size, w11.heap.size + 1, rfl, rfl, by omega, HSZ11.out, by have := HSZ11.out; omega, HZ1.out, HZ2.out, HBZ.out⟩
      · refine wpOp_forced 2 [1, 3] [_, _] _ rfl rfl rfl (by kernel_rfl) ?_
        simp only [List.getElem_toArray, List.getElem_cons_succ, List.getElem_cons_zero]
        go_wp2_with (at_make; refine wpList_make_bytes rfl _ _ rfl 64 rfl rfl (by decide) ?_)
        go_meet
        exact ⟨w11.heap.size, w11.heap.size + 1, rfl, rfl, by omega, HSZ11.out, by have := HSZ11.out; omega, HZ1.out, HZ2.out, HBZ.out⟩
    · refine wpOp_forced 1 [0, 2, 3] [_, _, _] _ rfl rfl rfl (by kernel_rfl) ?_
      simp only [List.getElem_toArray, List.getElem_cons_succ, List.getElem_cons_zero]
      go_wp2_with (at_make; refine wpList_make_bytes rfl _ _ rfl 64 rfl rfl (by decide) ?_)
      go_meet
      exact ⟨w11.heap.size + 1, w11.heap.size, rfl, rfl, by omega, by have := HSZ11.out; omega, HSZ11.out, HZ2.out, HZ1.out, HBZ.out⟩
  case rest =>
  obtain ⟨ga, gb, rfl, rfl, hgab, hga, hgb, hra, hrb, hbx⟩ := hcut
  have hgba : gb ≠ ga := fun e => hgab e.symm
  have HRA := Lib.hid hra
  have HRB := Lib.hid hrb
  have HBX := Lib.hid hbx
  have hbyt : BytesIn w10 w10.heap.size Aw 64 wide := HO10.out.bytes
  obtain ⟨go, oo, rfl, hgo, hwc⟩ := hbyt.2 (by decide)
  have HWC := Lib.hid hwc
  have h7lt : g7 < w10.heap.size := HR10.out.lt
  clear hra hrb hbx hbyt hwc
  go_wp2_with fail
  go_loopw [62] (fun i wr => ∃ k : Nat, k ≤ 64 ∧ i = .int .i64 k ∧ Row wr ga 5 (u8s (fillTo wide 54 k)).toArray ∧ Row wr gb 5 (u8s (fillTo wide 92 k)).toArray ∧ Below w10.heap.size w10 wr) (fun i _ => 64 - (intOf i).toNat)
  case atStart => exact ⟨0, by omega, rfl, HRA.out, HRB.out, HBX.out⟩
  case round =>
    obtain ⟨k, hk, rfl, hra, hrb, hbx⟩ := hrel
    by_cases hlt : k < 64
    · obtain ⟨c, hcc⟩ : ∃ c, c = wide.getD k 0 := ⟨_, rfl⟩
      have hcell : wr.cell? ⟨go, oo + k, none⟩ = some (.int .u8 (n8 c)) := by
        rw [hcc]; exact (hbx.cell (p := ⟨go, oo + k, none⟩) hgo).trans (HWC.out k hlt)
      have hca : wr.cell? ⟨ga, k, none⟩ = some (.int .u8 (n8 ((fillTo wide 54 k).getD k 0))) := by
        rw [hra.cell k, List.getElem?_toArray]; exact u8s_get _ _ (by rw [fillTo_length]; exact hlt)
      have hcb : wr.cell? ⟨gb, k, none⟩ = some (.int .u8 (n8 ((fillTo wide 92 k).getD k 0))) := by
        rw [hrb.cell k, List.getElem?_toArray]; exact u8s_get _ _ (by rw [fillTo_length]; exact hlt)
      obtain ⟨xa, hxa⟩ : ∃ xa, xa = (fillTo wide 54 k).getD k 0 := ⟨_, rfl⟩
      obtain ⟨xb, hxb⟩ : ∃ xb, xb = (fillTo wide 92 k).getD k 0 := ⟨_, rfl⟩
      rw [← hxa] at hca
      rw [← hxb] at hcb
      have hfa : wr.frozen? ⟨ga, k, none⟩ = false := hra.free k
      have hfb : wr.frozen? ⟨gb, k, none⟩ = false := hrb.free k
      have na : fillTo wide 54 (k + 1) = (fillTo wide 54 k).set k (c ^^^ 54) := by rw [fillTo, ← hcc]
      have nb : fillTo wide 92 (k + 1) = (fillTo wide 92 k).set k (c ^^^ 92) := by rw [fillTo, ← hcc]
      have NA := Lib.hid na
      have NB := Lib.hid nb
      have HRA2 := Lib.hid hra
      have HRB2 := Lib.hid hrb
      have HBX2 := Lib.hid hbx
      have x54 : bits .xor .u8 (n8 c) 54 = n8 (c ^^^ 54) := n8_xor c 54
      have x92 : bits .xor .u8 (n8 c) 92 = n8 (c ^^^ 92) := n8_xor c 92
      have X54 := Lib.hid x54
      have X92 := Lib.hid x92
      have b7 : (0 : Int) ≤ k := by omega
      have b8 : (k : Int) < 64 := by omega
      clear na nb hra hrb hbx hcc hxa hxb x54 x92
      go_wp2_with fail
      go_roundw
      case rel =>
        rw [X54.out, X92.out]
        refine ⟨k + 1, by omega, by go_num, ?_, ?_, (HBX2.out.setCell (p := ⟨ga, k, none⟩) hga _).setCell (p := ⟨gb, k, none⟩) hgb _⟩
        · rw [NA.out]; exact (HRA2.out.setByte k (c ^^^ 54)).other (a := ⟨gb, k, none⟩) hgab _
        · rw [NB.out]; exact (HRB2.out.other (a := ⟨ga, k, none⟩) hgba _).setByte k (c ^^^ 92)
      case measure => simp [intOf]; omega
    · obtain rfl : k = 64 := by omega
      rw [fillTo_all _ _ HWL.out] at hra hrb
      obtain ⟨ip, hip⟩ : ∃ ip, ip = wide.map (· ^^^ 54) := ⟨_, rfl⟩
      obtain ⟨op, hop⟩ : ∃ op, op = wide.map (· ^^^ 92) := ⟨_, rfl⟩
      rw [← hip] at hra
      rw [← hop] at hrb
      have hipl : ip.length = 64 := by rw [hip, List.length_map]; exact HWL.out
      have hopl : op.length = 64 := by rw [hop, List.length_map]; exact HWL.out
      have hfin : sha (op ++ sha (ip ++ bb)) = want := by rw [hip, hop]; exact HFIN.out
      have hBW : Below w.heap.size w wr := HW3.out.trans ((HB10.out.trans (hbx.mono HB10.out.size)).mono HW3.out.size)
      have HIP := Lib.hid hra
      have HOP := Lib.hid hrb
      have HBBr : Hid (BytesIn wr wr.heap.size BA bm bb) := (HBB10.out.below hbx).more hbx.size
      have HCr : Hid (Consts wr) := HC10.out.below hbx
      have HSr : Hid (Starts wr) := HS10.out.below hbx
      have HRr : Hid (Row wr g7 24 (u8s want).toArray) := HR10.out.below hbx HR10.out.lt
      have HFIN2 := Lib.hid hfin
      have HIPL := Lib.hid hipl
      have HOPL := Lib.hid hopl
      have HBWr := Lib.hid hBW
      clear hra hrb hbx hip hop hfin hipl hopl hBW HR10 HBB10 HC10 HS10 HB10 HWC HRA HRB HBX HBB3' HC3' HS3' HFIN HSK HWA
      have hp1 := parts_new wr 22 [.slice (some ⟨ga, 0, none⟩) 64 64, .slice BA bm bc] [ip, bb] ⟨sliceOf_bytes (bytesIn_rowN HIP.out HIPL.out) (Nat.le_refl _) (by decide), sliceOf_bytes HBBr.out (by omega) hbc, trivial⟩
      have hsha1 := sha_any [ip, bb] (some ⟨wr.heap.size, 0, none⟩) 2 2 (wr.alloc (.cells #[.slice (some ⟨ga, 0, none⟩) 64 64, .slice BA bm bc] 22)) (by omega) hp1 (by simp; have := HBBr.out.1; have := HIPL.out; omega) (HCr.out.alloc _) (HSr.out.alloc _)
      obtain ⟨h1, hh1⟩ : ∃ h1, h1 = sha (ip ++ bb) := ⟨_, rfl⟩
      rw [show [ip, bb].flatten = ip ++ bb by simp, ← hh1] at hsha1
      have hl1 : h1.length = 32 := by rw [hh1]; exact sha_length _
      have HS1 := Lib.hid hsha1
      have HH1 := Lib.hid hh1
      clear hp1 hsha1 hh1
      go_wp2_with (first | ((with_reducible show wpList _ _ _ (⟨none, .store _ _ _, _, _, _, _⟩ :: _) _ _); go_loud (refine wpList_store_sum rfl _ _ rfl _ h1 hl1 rfl rfl rfl ?_)) | (go_at_call 12; go_loud (refine HS1.out.mono ?_); rintro e w12 ⟨rfl, hb12⟩))
      obtain ⟨g15, hg15⟩ : ∃ g15, g15 = w12.heap.size := ⟨_, rfl⟩
      obtain ⟨V, hV⟩ : ∃ V : World, V = w12.alloc (.cells (u8s h1).toArray 24) := ⟨_, rfl⟩
      have hr15 : Row V g15 24 (u8s h1).toArray := by rw [hV, hg15]; exact Row.new w12 _ _
      have hbV : Below wr.heap.size wr V := by
        rw [hV]
        have hs2 : wr.heap.size ≤ w12.heap.size := by have := hb12.size; simp at this; omega
        exact (((Below.refl _ wr).alloc (Nat.le_refl _) _).trans (hb12.mono (by simp))).alloc hs2 _
      rw [← hV, ← hg15]
      have HR15 := Lib.hid hr15
      have HBV := Lib.hid (HBWr.out.trans (hbV.mono HBWr.out.size))
      have HRV : Hid (Row V g7 24 (u8s want).toArray) := HRr.out.below hbV HRr.out.lt
      have HOPV : Hid (Row V gb 5 (u8s op).toArray) := HOP.out.below hbV HOP.out.lt
      have HCV : Hid (Consts V) := HCr.out.below hbV
      have HSV : Hid (Starts V) := HSr.out.below hbV
      clear hV hg15 hr15 hbV hb12 HS1 HIP HOP HBBr HCr HSr HRr HBWr
      refine wp_region_any (by kernel_rfl) ?_
      change wpAny _ _ _ _ _ _ _ (World.drew _)
      refine wpAny_take_now 0 (some 82) (.slice (some ⟨gb, 0, none⟩) 64 64) rfl rfl (by kernel_rfl) (fun _ _ _ h => h) rfl (fun w => rfl) ?_
      refine wpAny_take_now 1 (some 83) (.slice (some ⟨g15, 0, none⟩) 32 32) rfl rfl (by kernel_rfl) (fun _ _ _ h => h) rfl (fun w => by go_simp) ?_
      refine wpAny_rel [(2, some 84), (3, some 85), (4, some 86), (5, some 87), (6, some 88), (7, some 89), (8, some 90), (9, some 6)] [] [] Grows (Grows V) rfl (by kernel_rfl) rfl (fun _ _ h1 h2 => h1.trans h2) (Grows.drew V) ?_
      refine rel_val rfl (fun v W => ∃ g, v = .slice (some ⟨g, 0, none⟩) 2 2 ∧ PartsIn W W.heap.size (some ⟨g, 0, none⟩) 2 [op, h1]) (by rintro v W1 W2 ⟨g, e, hp⟩ hg; exact ⟨g, e, (hp.below hg).more hg.size⟩) rfl (fun vs W hC hn => ?_) ?_
      · refine ⟨.slice (some ⟨W.heap.size, 0, none⟩) 2 2, W.alloc (.cells #[.slice (some ⟨gb, 0, none⟩) 64 64, .slice (some ⟨g15, 0, none⟩) 32 32] 22), by rfl, ?_, ⟨_, rfl, ?_⟩, Grows.alloc _ _⟩
        · simp only [putAll]
          go_simp
        · exact parts_new W 22 [.slice (some ⟨gb, 0, none⟩) 64 64, .slice (some ⟨g15, 0, none⟩) 32 32] [op, h1] ⟨sliceOf_bytes (bytesIn_rowN (HOPV.out.below hC HOPV.out.lt) HOPL.out) (Nat.le_refl _) (by decide), sliceOf_bytes (bytesIn_rowN (HR15.out.below hC HR15.out.lt) hl1) (Nat.le_refl _) (by decide), trivial⟩
      refine rel_call_const rfl (.agg (u8s want).toArray) 12 rfl (fun vs W hC hn => ?_) ?_
      · obtain ⟨g, e, hp⟩ := hn.1 rfl
        refine ⟨#[.slice (some ⟨g, 0, none⟩) 2 2], rfl, ?_, ?_⟩
        · simp only [putAll, e]
          go_simp
        · have := sha_any [op, h1] (some ⟨g, 0, none⟩) 2 2 W (by omega) hp (by simp; have := HOPL.out; omega) (HCV.out.below hC) (HSV.out.below hC)
          rw [show [op, h1].flatten = op ++ h1 by simp, HH1.out, HFIN2.out] at this
          exact this
      refine rel_const rfl (.agg (u8s want).toArray) rfl (fun vs W hC hn => ?_) ?_
      · refine ⟨rfl, ?_⟩
        simp only [putAll]
        refine run_load_whole (HRV.out.below hC HRV.out.lt) Tryd.underlying24 rfl HIW.out rfl ?_
        go_simp
      refine rel_const rfl (.bool true) rfl (fun vs W hC hn => ?_) ?_
      · have e3 := hn.2.1 rfl
        have e4 := hn.1 rfl
        refine ⟨rfl, ?_⟩
        have he := HEQ.out
        simp only [putAll, e3, e4]
        go_simp
      refine rel_const rfl (.bool true) rfl (fun vs W hC hn => ?_) ?_
      · have e5 := hn.1 rfl
        refine ⟨rfl, ?_⟩
        simp only [putAll, e5]
        go_simp
      refine rel_call_const rfl (.bool true) 16 rfl (fun vs W hC hn => ?_) ?_
      · have e6 := hn.1 rfl
        refine ⟨#[], ?_, ?_, tells_any W (HCV.out.below hC) (HSV.out.below hC)⟩
        · simp only [putAll, e6]; go_simp
        · simp only [putAll]; go_simp
      refine rel_const rfl (.bool true) rfl (fun vs W hC hn => ?_) ?_
      · have e6 := hn.2.1 rfl
        have e7 := hn.1 rfl
        refine ⟨rfl, ?_⟩
        simp only [putAll, e6, e7]
        go_simp
      refine rel_const rfl (.bool true) rfl (fun vs W hC hn => ?_) ?_
      · have e8 := hn.1 rfl
        refine ⟨rfl, ?_⟩
        simp only [putAll, e8]
        go_simp
      refine rel_nil (fun vs W hC hk => ?_)
      have e9 := hk.1
      simp only [putAll, e9]
      go_wp2_with fail
      go_ret
      exact ⟨rfl, HBV.out.trans (hC.mono HBV.out.size)⟩
end Go.Proofs.YtgejndannlfhkaaDoor
