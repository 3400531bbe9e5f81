/- The walk of longwirelaw03.SealDerives. No condition but sizes. -/
import Derived.Test.YtgejndannlfhkaaDoorWakes
import Derived.Test.YtgejndannlfhkaaDoorRef3b
import Derived.Test.YtgejndannlfhkaaDoorFew
import Derived.Test.YtgejndannlfhkaaDoorRel
import Derived.Test.YtgejndannlfhkaaDoorTellsLaw
namespace Go.Proofs.YtgejndannlfhkaaDoor
open Go Go.RowKit Go.Shelf

/-- The key and the error of a secret, a label and parts. -/
def keyOf (sec : List UInt8) (s : ByteArray) (ps : List (List UInt8)) : List UInt8 := if 1 ≤ sec.length ∧ sec.length ≤ 64 then hmac sec (laidB s ps) else zeros 32
def errOf (sec : List UInt8) : Int := if 1 ≤ sec.length ∧ sec.length ≤ 64 then 0 else 1
theorem keyOf_length (sec : List UInt8) (s : ByteArray) (ps : List (List UInt8)) : (keyOf sec s ps).length = 32 := by
  unfold keyOf
  split
  · rw [hmac]; exact sha_length _
  · simp [zeros]
theorem derive_any (sec : List UInt8) (SA : Option Addr) (sn sc : Nat) (s : ByteArray) (ps : List (List UInt8)) (PA : Option Addr) (pn pc : Nat) (w : World) (hsec : BytesIn w w.heap.size SA sn sec) (hsn : sn ≤ sc) (hsc : sc ≤ maxLen) (hs : s.size ≤ 65535)
    (hp : PartsIn w w.heap.size PA pn ps) (hlen : (laidB s ps).length ≤ 1000000) (hpn : pn ≤ 1000000) (hk : Consts w) (hst : Starts w) :
    Calls Tryd.prog 23 #[.slice SA sn sc, .string s, .slice PA pn pc] w fun e w' => e = .returned (.tuple #[.agg (u8s (keyOf sec s ps)).toArray, .int .i64 (errOf sec)]) ∧ Below w.heap.size w w' := by
  have hl := hsec.1
  by_cases h : 1 ≤ sec.length ∧ sec.length ≤ 64
  · rw [keyOf, errOf, if_pos h, if_pos h]
    exact derive_ok sec SA sn sc s ps PA pn pc w hsec (by omega) (by omega) hsn hsc hs hp hlen hpn hk hst
  · rw [keyOf, errOf, if_neg h, if_neg h]
    exact derive_bad SA sn sc s PA pn pc w (by omega)
theorem deriveF_any (sec : List UInt8) (SA : Option Addr) (sn sc : Nat) (s : ByteArray) (ps : List (List UInt8)) (PA : Option Addr) (pn pc : Nat) (w : World) (hsec : BytesIn w w.heap.size SA sn sec) (hs : s.size ≤ 65535)
    (hp : PartsIn w w.heap.size PA pn ps) (hlen : (laidB s ps).length ≤ 1000000) (hpn : pn ≤ 1000000) (hsq : Squares w) (hcu : Cubes w) :
    Calls Tryd.prog 24 #[.slice SA sn sc, .string s, .slice PA pn pc] w fun e w' => e = .returned (.tuple #[.agg (u8s (keyOf sec s ps)).toArray, .int .i64 (errOf sec)]) ∧ Below w.heap.size w w' := by
  have hl := hsec.1
  by_cases h : 1 ≤ sec.length ∧ sec.length ≤ 64
  · rw [keyOf, errOf, if_pos h, if_pos h]
    exact deriveF_ok sec SA sn sc s ps PA pn pc w hsec (by omega) (by omega) hs hp hlen hpn hsq hcu
  · rw [keyOf, errOf, if_neg h, if_neg h]
    exact deriveF_bad SA sn sc s hs PA pn pc w (by omega)

/-- A whole array loaded, under a guard that lets it. -/
theorem wpList_load_row' {P : Program} {ops : Array Oper} {rest : List Oper} {o : Oper} {a : Act} {w : World} {Q : Exit → Act → World → Prop} (hw : Region.wanted o (yielded ops a.tmps) = true) (ty : TypeId) (x : Operand) (ho : o.op = .load ty x)
    (g : Nat) (hx : a.eval x = .pointer (some ⟨g, 0, none⟩)) (t : TypeId) (cs : Array Value) (d : TypeDesc) (hg : Row w g t cs)
    (hu : P.underlying ty = some d) (hd : (match d with | .struct _ | .array _ _ => true | _ => false) = true) (hi : (P.info? ty).map (·.size) = some cs.size)
    (h : wpList P ops Q rest (a.put o.dst (.agg cs)) w) : wpList P ops Q (o :: rest) a w :=
  wpList_step fun K hK => by rw [if_pos hw]; exact wp_load_row ty x ho g hx t cs (0, 0) d hg hu hd hi (hK _ _ h)

/-- The first bytes of a string. -/
def strTo (s : ByteArray) (m : Nat) : ByteArray := s.extract 0 m
theorem strTo_size (s : ByteArray) (m : Nat) (h : m ≤ s.size) : (strTo s m).size = m := by simp [strTo]; omega

set_option maxRecDepth 100000 in
set_option maxHeartbeats 8000000 in
theorem derives_walk (sec : List UInt8) (lb : ByteArray) (ps : List (List UInt8)) (SA : Option Addr) (sn sc : Nat) (PA : Option Addr) (pn pc : Nat) (w : World) (hsec : BytesIn w w.heap.size SA sn sec) (hsn : sn ≤ sc) (hsc : sc ≤ maxLen) (hlb : lb.size ≤ maxLen) (hp : PartsIn w w.heap.size PA pn ps) (hpn : pn ≤ maxLen) (hk : Consts w) (hst : Starts w) (hsq : Squares w) (hcu : Cubes w) :
    Calls Tryd.prog 7 #[.slice SA sn sc, .string lb, .slice PA pn pc] w fun e w' => e = .returned (.bool true) ∧ Below w.heap.size w w' := by
  obtain ⟨sm, hsm⟩ : ∃ sm, sm = min sn 80 := ⟨_, rfl⟩
  obtain ⟨lm, hlm⟩ : ∃ lm, lm = min lb.size 40 := ⟨_, rfl⟩
  have HSEC : Hid (BytesIn w w.heap.size SA sm (sec.take sm)) := hsec.take _ (by omega)
  obtain ⟨ls, hls⟩ : ∃ ls, ls = strTo lb lm := ⟨_, rfl⟩
  have hlss : ls.size = lm := by rw [hls]; exact strTo_size _ _ (by omega)
  have HSLS : Hid (lb.extract 0 lm = ls) := hls.symm
  have hl40 : ls.size ≤ 40 := by omega
  have HP := Lib.hid hp
  have HC := Lib.hid hk
  have HS := Lib.hid hst
  have HSQ := Lib.hid hsq
  have HCU := Lib.hid hcu
  have HSM := Lib.hid hsm
  have HLM := Lib.hid hlm
  have b1 : (sn : Int) ≤ sc := by omega
  have b2 : (sc : Int) ≤ 9223372036854775807 := by unfold maxLen at hsc; omega
  have b3 : (lb.size : Int) ≤ 9223372036854775807 := by unfold maxLen at hlb; omega
  have b5 : (sm : Int) ≤ sc := by omega
  have b6 : (lm : Int) ≤ lb.size := by omega
  have hsmc : sm ≤ sc := by omega
  clear hsec hp hk hst hsq hcu hsm hlm hls hlss
  go_enter Tryd.func7, Tryd.ntmps7
  go_wp2_with fail
  refine wp_region_any (by kernel_rfl) ?_
  change wpAny _ _ _ _ _ _ _ (World.drew _)
  refine wpAny_take_now 0 (some 13) (.slice SA sn sc) rfl rfl (by kernel_rfl) (fun _ _ _ h => h) rfl (fun w => rfl) ?_
  refine wpAny_take_now 1 (some 14) (.slice SA sn sc) rfl rfl (by kernel_rfl) (fun _ _ _ h => h) rfl (fun w => rfl) ?_
  refine wpAny_take_now 5 (some 18) (.string lb) rfl rfl (by kernel_rfl) (fun _ _ _ h => h) rfl (fun w => rfl) ?_
  refine wpAny_take_now 6 (some 19) (.string lb) rfl rfl (by kernel_rfl) (fun _ _ _ h => h) rfl (fun w => rfl) ?_
  refine wpAny_take_now 10 (some 23) (.slice PA pn pc) rfl rfl (by kernel_rfl) (fun _ _ _ h => h) rfl (fun w => rfl) ?_
  refine wpAny_rel [(2, some 15), (3, some 16), (4, some 17), (7, some 20), (8, some 21), (9, some 22), (11, some 24), (12, some 0), (13, some 1), (14, some 2)] [] [] Grows (Grows w) rfl (by kernel_rfl) rfl (fun _ _ h1 h2 => h1.trans h2) (Grows.drew w) ?_
  refine rel_const rfl (.int .i64 (sn : Int)) rfl (fun vs W hC hn => ?_) ?_
  · skip
    refine ⟨rfl, ?_⟩
    simp only [putAll]
    go_simp
  refine rel_const rfl (.int .i64 (sm : Int)) rfl (fun vs W hC hn => ?_) ?_
  · skip
    have e2 := hn.1 rfl
    refine ⟨rfl, ?_⟩
    simp only [putAll, e2]
    go_simp
    have := HSM.out
    split <;> omega
  refine rel_const rfl (.slice SA sm sc) rfl (fun vs W hC hn => ?_) ?_
  · skip
    have e3 := hn.1 rfl
    refine ⟨rfl, ?_⟩
    simp only [putAll, e3]
    go_simp
  refine rel_const rfl (.int .i64 (lb.size : Int)) rfl (fun vs W hC hn => ?_) ?_
  · skip
    refine ⟨rfl, ?_⟩
    simp only [putAll]
    go_simp
  refine rel_const rfl (.int .i64 (lm : Int)) rfl (fun vs W hC hn => ?_) ?_
  · skip
    have e7 := hn.1 rfl
    refine ⟨rfl, ?_⟩
    simp only [putAll, e7]
    go_simp
    have := HLM.out
    split <;> omega
  refine rel_const rfl (.string ls) rfl (fun vs W hC hn => ?_) ?_
  · skip
    have e8 := hn.1 rfl
    refine ⟨rfl, ?_⟩
    have hsl := HSLS.out
    simp only [putAll, e8]
    go_simp
  refine rel_call rfl (fun v W => ∃ A n c, v = .slice A n c ∧ n ≤ 6 ∧ n ≤ c ∧ c ≤ maxLen ∧ PartsIn W W.heap.size A n (fewL ps)) (by rintro v W1 W2 ⟨A, n, c, e, h1, h2, h3, hp⟩ hG; exact ⟨A, n, c, e, h1, h2, h3, (hp.below hG).more hG.size⟩) rfl (fun vs W hC hn => ?_) ?_
  · skip
    refine ⟨22, #[.slice PA pn pc], rfl, ?_, (few_any ps PA pn pc W ((HP.out.below hC).more hC.size) hpn).mono (by rintro e w2 ⟨A, n, c, rfl, hp, h1, h2, h3, hb⟩; exact ⟨_, rfl, ⟨A, n, c, rfl, h1, h2, h3, hp⟩, hb⟩)⟩
    simp only [putAll]
    go_simp
  refine rel_const rfl (.slice SA sm sc) rfl (fun vs W hC hn => ?_) ?_
  · skip
    have e4 := hn.2.2.2.2.1 rfl
    refine ⟨rfl, ?_⟩
    simp only [putAll, e4]
    go_simp
  refine rel_const rfl (.string ls) rfl (fun vs W hC hn => ?_) ?_
  · skip
    have e9 := hn.2.2.1 rfl
    refine ⟨rfl, ?_⟩
    simp only [putAll, e9]
    go_simp
  refine rel_val rfl (fun v W => ∃ A n c, v = .slice A n c ∧ n ≤ 6 ∧ n ≤ c ∧ c ≤ maxLen ∧ PartsIn W W.heap.size A n (fewL ps)) (by rintro v W1 W2 ⟨A, n, c, e, h1, h2, h3, hp⟩ hG; exact ⟨A, n, c, e, h1, h2, h3, (hp.below hG).more hG.size⟩) rfl (fun vs W hC hn => ?_) ?_
  · skip
    obtain ⟨A11, n11, c11, e11, h111, h112, h113, h114⟩ := hn.2.2.1 rfl
    refine ⟨vs 11, W, rfl, ?_, ⟨A11, n11, c11, e11, h111, h112, h113, h114⟩, Grows.refl _⟩
    simp only [putAll, e11]
    go_simp
  refine rel_nil (fun vs w1 hC hk => ?_)
  obtain ⟨k14, k13, k12, k11, k9, k8, k7, k4, k3, k2, _⟩ := hk
  have e2 := k2
  have e3 := k3
  have e4 := k4
  have e7 := k7
  have e8 := k8
  have e9 := k9
  obtain ⟨A11, n11, c11, e11, _, _, _, _⟩ := k11
  have e12 := k12
  have e13 := k13
  obtain ⟨A14, n14, c14, e14, h141, h142, h143, h144⟩ := k14
  simp only [putAll, e2, e3, e4, e7, e8, e9, e11, e12, e13, e14]
  have HSEC1 : Hid (BytesIn w1 w1.heap.size SA sm (sec.take sm)) := (HSEC.out.below hC).more hC.size
  have HC1 : Hid (Consts w1) := HC.out.below hC
  have HS1 : Hid (Starts w1) := HS.out.below hC
  have HSQ1 : Hid (Squares w1) := HSQ.out.below hC
  have HCU1 : Hid (Cubes w1) := HCU.out.below hC
  have HP1 : Hid (PartsIn w1 w1.heap.size A14 n14 (fewL ps)) := h144
  have HW1 : Hid (Below w.heap.size w w1) := hC
  obtain ⟨k1, hk1⟩ : ∃ k1, k1 = sec.take sm := ⟨_, rfl⟩
  rw [← hk1] at HSEC1
  obtain ⟨fl, hfl⟩ : ∃ fl, fl = fewL ps := ⟨_, rfl⟩
  rw [← hfl] at HP1
  have hlaid := fewL_laid ls ps (by omega)
  have hpart := fun k => fewL_part ps k
  rw [← hfl] at hlaid hpart
  obtain ⟨kk, hkk⟩ : ∃ kk, kk = keyOf k1 ls fl := ⟨_, rfl⟩
  obtain ⟨er, her⟩ : ∃ er, er = errOf k1 := ⟨_, rfl⟩
  have hkl : kk.length = 32 := by rw [hkk]; exact keyOf_length ..
  have hd1 := derive_any k1 SA sm sc ls fl A14 n14 c14 w1 HSEC1.out hsmc hsc (by omega) HP1.out hlaid (by omega) HC1.out HS1.out
  rw [← hkk, ← her] at hd1
  have HKK := Lib.hid hkk
  have HER := Lib.hid her
  have HD1 := Lib.hid hd1
  have HLAID := Lib.hid hlaid
  have HPART := Lib.hid hpart
  have HI1 := Lib.hid (info_key kk hkl)
  have HI2 := Lib.hid (info_arr kk hkl)
  have HZ := Lib.hid (zeros32_size kk hkl)
  have HKL := Lib.hid hkl
  clear e2 e3 e4 e7 e8 e9 e11 e12 e13 e14 k2 k3 k4 k7 k8 k9 k12 k13
  clear hk1 hfl hlaid hpart hkk her hkl hd1 hC h144
  go_wp2_with (first | ((with_reducible show wpList _ _ _ (⟨none, .store _ _ _, _, _, _, _⟩ :: _) _ _); go_loud (refine wpList_store_new rfl 43 _ _ rfl 43 _ (u8s kk).toArray rfl rfl HI1.out HZ.out (u8s_all _) ?_)) | (go_at_call 23; refine HD1.out.mono ?_; rintro e w2 ⟨rfl, hb2⟩))
  obtain ⟨g7, hg7⟩ : ∃ g7, g7 = w2.heap.size := ⟨_, rfl⟩
  obtain ⟨W3, hW3⟩ : ∃ W3 : World, W3 = w2.alloc (.cells (u8s kk).toArray 43) := ⟨_, rfl⟩
  have HR3 : Hid (Row W3 g7 43 (u8s kk).toArray) := show Row _ _ _ _ by rw [hW3, hg7]; exact Row.new w2 _ _
  have hb3 : Below w1.heap.size w1 W3 := by rw [hW3]; exact hb2.alloc hb2.size _
  rw [← hW3, ← hg7]
  have hd2 := deriveF_any k1 SA sm sc ls fl A14 n14 c14 W3 ((HSEC1.out.below hb3).more hb3.size) (by omega) ((HP1.out.below hb3).more hb3.size) HLAID.out (by omega) (HSQ1.out.below hb3) (HCU1.out.below hb3)
  rw [← HKK.out, ← HER.out] at hd2
  have HD2 := Lib.hid hd2
  have HB3 := Lib.hid hb3
  clear hW3 hg7 hb2 hb3 hd2 HD1
  go_wp2_with fail
  refine HD2.out.mono ?_
  rintro e w4 ⟨rfl, hb4⟩
  obtain ⟨g9, hg9⟩ : ∃ g9, g9 = w4.heap.size := ⟨_, rfl⟩
  obtain ⟨V, hV⟩ : ∃ V : World, V = w4.alloc (.cells (u8s kk).toArray 23) := ⟨_, rfl⟩
  have HV := Lib.hid hV
  have HG9 := Lib.hid hg9
  have RB : Hid (Row V g9 23 (u8s kk).toArray) := show Row _ _ _ _ by rw [hV, hg9]; exact Row.new w4 _ _
  have hb5 : Below W3.heap.size W3 V := by rw [hV]; exact hb4.alloc hb4.size _
  have RA : Hid (Row V g7 43 (u8s kk).toArray) := HR3.out.below hb5 HR3.out.lt
  have HB5 : Hid (Below w1.heap.size w1 V) := HB3.out.trans (hb5.mono HB3.out.size)
  have HNE : Hid (∀ w, (binOp .neq 43 (.agg (u8s kk).toArray) (.agg (u8s kk).toArray)).run Tryd.prog w = .ok (.bool false) w) := fun w => by
    have := neq_key kk kk HKL.out HKL.out w
    rwa [show (!(kk == kk)) = false by simp] at this
  clear hV hg9 hb4 hb5 HD2
  go_wp2_with (first | ((with_reducible show wpList _ _ _ (⟨some 43, _, _, _, _, _⟩ :: _) _ _); go_loud (refine wpList_load_row' rfl 43 _ rfl g7 rfl 43 _ _ RA.out Tryd.underlying43 rfl HI1.out ?_)) | ((with_reducible show wpList _ _ _ (⟨some 44, _, _, _, _, _⟩ :: _) _ _); go_loud (refine wpList_load_row' rfl 23 _ rfl g9 rfl 23 _ _ RB.out Tryd.underlying23 rfl HI2.out ?_)) | ((with_reducible show wpList _ _ _ (⟨none, .store _ _ _, _, _, _, _⟩ :: _) _ _); go_loud (refine wpList_store_new rfl 23 _ _ rfl 23 _ (u8s kk).toArray rfl rfl HI2.out HZ.out (u8s_all _) ?_); rw [← HV.out, ← HG9.out]; have hne := HNE.out))
  go_loopw [49] (fun i wr => ∃ k : Nat, k ≤ n14 ∧ i = .int .i64 k ∧ Below V.heap.size V wr) (fun i _ => n14 - (intOf i).toNat)
  case atStart => exact ⟨0, by omega, rfl, Below.refl _ _⟩
  case round =>
    obtain ⟨k, hkn, rfl, hbr⟩ := hrel
    have HBR := Lib.hid hbr
    have HB6 : Hid (Below w1.heap.size w1 wr) := HB5.out.trans (hbr.mono HB5.out.size)
    clear hbr
    by_cases hlt : k < n14
    · obtain ⟨q, o, rfl, hq, hc⟩ := HP1.out.2 (by omega)
      obtain ⟨A', m, cm, hc1, hc2, hc3, hc4⟩ := hc k hlt
      have hcell : wr.cell? ⟨q, o + k, none⟩ = some (.slice A' m cm) := (HB6.out.cell (p := ⟨q, o + k, none⟩) hq).trans hc1
      obtain ⟨p, hp⟩ : ∃ p, p = fl.getD k [] := ⟨_, rfl⟩
      have hpl := HPART.out k
      rw [← hp] at hc4 hpl
      have hml := hc4.1
      obtain ⟨tg, htg⟩ : ∃ tg, tg = unbe ((hmac kk p).take 8) := ⟨_, rfl⟩
      have ht1 : ∀ W, Alike wr W → Calls Tryd.prog 25 #[.agg (u8s kk).toArray, .slice A' m cm] W fun e w' => e = .returned (.int .u64 (tg : Nat)) ∧ Below W.heap.size W w' := fun W hW => by
        have hb := HB6.out.trans (hW.mono HB6.out.size)
        have := tag_any kk p HKL.out A' m cm W ((hc4.below hb).more hb.size) hc2 hc3 (by omega) (HC1.out.below hb) (HS1.out.below hb)
        rwa [← htg] at this
      have ht2 : ∀ W, Alike wr W → Calls Tryd.prog 26 #[.agg (u8s kk).toArray, .slice A' m cm] W fun e w' => e = .returned (.int .u64 (tg : Nat)) ∧ Below W.heap.size W w' := fun W hW => by
        have hb := HB6.out.trans (hW.mono HB6.out.size)
        have := tagF_any kk p HKL.out A' m cm W ((hc4.below hb).more hb.size) (by omega) (HSQ1.out.below hb) (HCU1.out.below hb)
        rwa [← htg] at this
      have HT1 := Lib.hid ht1
      have HT2 := Lib.hid ht2
      have RAr : Hid (Row wr g7 43 (u8s kk).toArray) := RA.out.below HBR.out RA.out.lt
      have RBr : Hid (Row wr g9 23 (u8s kk).toArray) := RB.out.below HBR.out RB.out.lt
      have k1' : (k : Int) < n14 := by omega
      have k2' : (0 : Int) ≤ k := by omega
      clear hc hc1 hc4 hp hpl hml htg ht1 ht2
      go_wp2_with fail
      clear hcell
      refine wp_region_alike (by kernel_rfl) (by kernel_rfl) ?_
      go_simp
      refine q_load_row (some 53) 43 _ g7 43 (u8s kk).toArray _ rfl rfl rfl rfl RAr.out Tryd.underlying43 rfl HI1.out ?_
      go_simp
      refine q_move (some 54) (.slice A' m cm) _ rfl rfl rfl rfl ?_
      go_simp
      refine q_call (some 55) (.int .u64 (tg : Nat)) 25 #[.agg (u8s kk).toArray, .slice A' m cm] rfl rfl (fun w => by go_simp) HT1.out ?_
      go_simp
      refine q_load_row (some 56) 23 _ g9 23 (u8s kk).toArray _ rfl rfl rfl rfl RBr.out Tryd.underlying23 rfl HI2.out ?_
      go_simp
      refine q_move (some 57) (.slice A' m cm) _ rfl rfl rfl rfl ?_
      go_simp
      refine q_call (some 58) (.int .u64 (tg : Nat)) 26 #[.agg (u8s kk).toArray, .slice A' m cm] rfl rfl (fun w => by go_simp) HT2.out ?_
      go_simp
      refine q_val (some 59) (.bool false) rfl rfl (fun w _ => by go_simp) ?_
      go_simp
      refine wpQuiet_nil ?_
      intro wz hz
      have HBZ : Hid (Below V.heap.size V wz) := HBR.out.trans (hz.mono HBR.out.size)
      clear hz
      go_wp2_with fail
      go_roundw
      case rel => exact ⟨k + 1, by omega, by go_num, HBZ.out⟩
      case measure => simp [intOf]; omega
    · obtain rfl : k = n14 := by omega
      have HWK := Lib.hid (wakes_any wr (HC1.out.below HB6.out) (HS1.out.below HB6.out))
      go_wp2_with (go_at_call 27; refine HWK.out.mono ?_; rintro e wz ⟨rfl, hbz⟩)
      go_ret
      exact ⟨rfl, HW1.out.trans ((HB6.out.trans (hbz.mono HB6.out.size)).mono HW1.out.size)⟩
end Go.Proofs.YtgejndannlfhkaaDoor
