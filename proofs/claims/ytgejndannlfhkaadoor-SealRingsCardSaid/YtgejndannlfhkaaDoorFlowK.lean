/- A region that draws its order, its first k operations taken: the next are quiet in a class of worlds, the rest is forced behind them. No condition. -/
import Derived.Test.YtgejndannlfhkaaDoorFlow
namespace Go.Proofs.YtgejndannlfhkaaDoor
open Go
section
variable {P : Program} {C : World → Prop}

def sinkKB (ops : Array Oper) (k n : Nat) : Bool :=
  (List.range n).all fun i => decide (i < k) || (List.range (n + 1)).any fun j => decide (i < j) && Region.waitsFor .any ops j i
def headTailKB (ops : Array Oper) (k n : Nat) : Bool :=
  decide (n < ops.size) && decide (k ≤ n) && backB ops n && sinkKB ops k n && Region.chainB .any ops n &&
  (Region.noSelect (ops.extract 0 n) && Region.lexFrom .any (ops.extract 0 n) (n - k) k (Array.replicate k true ++ Array.replicate (n - k) false)) &&
  Region.seqB .any ops (ops.size - n) n ((Array.replicate n true) ++ Array.replicate (ops.size - n) false) &&
  ((List.range k).all fun i => match ops[i]? with
    | some o => o.after.toList.all fun e => !Region.binds .any e || decide (e.on < k)
    | none => false)

theorem tail_waitsK {ops : Array Oper} {k n : Nat} {listed : Array Bool} (hs : sinkKB ops k n = true) (hc : Region.chainB .any ops n = true) (hn : n < ops.size) (inv : HeadInv .any ops n listed) :
    ∀ (d i : Nat), n - i = d → i < n → k ≤ i → listed.getD i true = false → ∀ t, n ≤ t → t ∉ Region.ready .any ops listed := by
  intro d
  induction d using Nat.strongRecOn with
  | _ d ih =>
    intro i hd hi hki hun t ht hr
    obtain ⟨_, ot, hot, hall⟩ := mem_ready.1 hr
    have htlt : t < ops.size := (Array.getElem?_eq_some_iff.1 hot).1
    by_cases htn : t = n
    · subst htn
      have h1 := List.all_eq_true.1 hs i (List.mem_range.2 hi)
      simp only [Bool.or_eq_true, decide_eq_true_eq] at h1
      rcases h1 with h1 | h1
      · omega
      obtain ⟨j, hj, hj2⟩ := List.any_eq_true.1 h1
      simp only [Bool.and_eq_true, decide_eq_true_eq] at hj2
      obtain ⟨oj, hoj, e, he, hb, hon⟩ := Region.waitsFor_spec hj2.2
      have hjle : j ≤ t := by have := List.mem_range.1 hj; omega
      by_cases hjt : j = t
      · subst hjt
        have : oj = ot := Option.some.inj (hoj.symm.trans hot)
        subst this
        have h2 := hall e he hb
        rw [hon, getD_both hun] at h2
        cases h2
      · cases hl : listed.getD j false with
        | true =>
          have h2 := inv.closed j oj hoj hl e he hb
          rw [hon, getD_both hun] at h2
          cases h2
        | false =>
          have hjs : j < listed.size := by rw [inv.size]; omega
          exact ih (t - j) (by omega) j rfl (by omega) (by omega) (getD_in hjs hl) t (Nat.le_refl _) hr
    · have h1 := List.all_eq_true.1 hc t (List.mem_range.2 htlt)
      simp only [Bool.or_eq_true, decide_eq_true_eq] at h1
      rcases h1 with h1 | h1
      · omega
      · obtain ⟨o', ho', e, he, hb, hon⟩ := Region.waitsFor_spec h1
        have : o' = ot := Option.some.inj (ho'.symm.trans hot)
        subst this
        have h2 := hall e he hb
        rw [hon, getD_both (inv.tail (t - 1) (by omega) (by omega))] at h2
        cases h2

theorem wpAny_headK {ops : Array Oper} {k n : Nat} {Q : Exit → Act → World → Prop} (hn : n < ops.size) (hbk : backB ops n = true) (hs : sinkKB ops k n = true) (hc : Region.chainB .any ops n = true)
    (hseq : Region.seqB .any ops (ops.size - n) n ((Array.replicate n true) ++ Array.replicate (ops.size - n) false) = true) :
    ∀ (f : Nat) (listed listed' : Array Bool) (a : Act) (w : World), HeadInv .any ops n listed → (∀ j, j < k → listed.getD j false = true) → listed'.size = n → (∀ j, j < n → listed'.getD j false = listed.getD j false) → openCount n listed = f → C w →
      wpAnyQ P .any (ops.extract 0 n) C (fun a' => ∀ w', C w' → wpList P ops Q (ops.toList.drop n) a' w') f listed' a → wpAny P .any ops Q (f + (ops.size - n)) listed a w
  | 0, listed, listed', a, w, inv, _, _, _, hcnt, hw, h => by
    rw [Nat.zero_add]
    have hl : (ops.toList.drop n).length = ops.size - n := by simp
    have hlist := listed_full inv hn hcnt
    have := wpAny_of_seq (P := P) (md := .any) (Q' := Q) (ops.toList.drop n) n listed a w (fun j => by simp [List.getElem?_drop]) (by rw [hl, hlist]; exact hseq) (h.2 w hw)
    rwa [hl] at this
  | f + 1, listed, listed', a, w, inv, hpre, hs', hag, hcnt, hw, h => by
    rw [show f + 1 + (ops.size - n) = (f + (ops.size - n)) + 1 by omega]
    obtain ⟨i0, hi0, hf0, hall0⟩ := openCount_pos (n := n) (listed := listed) (by omega)
    have hki : k ≤ i0 := by
      rcases Nat.lt_or_ge i0 k with h | h
      · rw [hpre i0 h] at hf0; cases hf0
      · exact h
    obtain ⟨o0, ho0, hlt0, _⟩ := backB_spec hbk hi0
    have hr0 : i0 ∈ Region.ready .any ops listed := mem_ready.2 ⟨getD_in (by rw [inv.size]; omega) hf0, o0, ho0, fun e he hb => hall0 _ (hlt0 e he hb)⟩
    refine ⟨fun h0 => (by rw [h0] at hr0; cases hr0), fun i hi => ?_⟩
    have hin : i < n := by
      rcases Nat.lt_or_ge i n with h | h
      · exact h
      · exact absurd hi (tail_waitsK hs hc hn inv _ i0 rfl hi0 hki (getD_in (by rw [inv.size]; omega) hf0) i h)
    have hq := qOp_cut hn hin hbk (h.2 i (ready_head hin hs' hn hag hbk hi))
    have hun := getD_both (mem_ready.1 hi).1
    refine wpOp_of_qOp hw (fun a' w' hw' h' => ?_) hq
    refine wpAny_headK hn hbk hs hc hseq f (listed.setIfInBounds i true) (listed'.setIfInBounds i true) a' w' (inv.set hi hin) (fun j hj => getD_set_true (hpre j hj)) (by simpa using hs') (fun j hj => ?_) ?_ hw' h'
    · by_cases hij : i = j
      · subst hij
        have h1 : i < listed.size := by rw [inv.size]; omega
        simp [hs', hj, h1]
      · rw [getD_set_ne false hij, getD_set_ne false hij]; exact hag j hj
    · have := openCount_set hin (by rw [inv.size]; omega) hun
      omega

/-- The first k are taken; those up to n are quiet; the rest is forced. -/
theorem wpAny_quiet_tail {Q : Exit → Act → World → Prop} {a : Act} {w : World} {l : List Oper} {listed : Array Bool} {fuel : Nat} (k n : Nat) (hB : headTailKB l.toArray k n = true) (hf : fuel = (n - k) + (l.length - n)) (hl : listed = Array.replicate k true ++ Array.replicate (l.length - k) false) (hC : C w)
    (h : wpQuiet P (l.take n).toArray C (fun a' => ∀ w', C w' → wpList P l.toArray Q (l.drop n) a' w') ((l.take n).drop k) a) : wpAny P .any l.toArray Q fuel listed a w := by
  subst hf
  simp only [headTailKB, Bool.and_eq_true, decide_eq_true_eq] at hB
  obtain ⟨⟨⟨⟨⟨⟨⟨hn, hkn⟩, hbk⟩, hs⟩, hc⟩, hsel, hlex⟩, hseq⟩, hpre⟩ := hB
  have hn' : n < l.length := by simpa using hn
  have hcut : l.toArray.extract 0 n = (l.take n).toArray := by simp
  rw [hcut] at hsel hlex
  have hget : ∀ j, listed.getD j false = decide (j < k) := fun j => by
    rw [hl]
    by_cases h1 : j < k
    · simp [Array.getElem?_append, h1]
    · simp only [h1, decide_false, Array.getD_eq_getD_getElem?, Array.getElem?_append, Array.size_replicate, if_false, Array.getElem?_replicate]
      split <;> rfl
  have hsz : listed.size = l.toArray.size := by rw [hl]; simp; omega
  have inv0 : HeadInv .any l.toArray n listed := by
    refine ⟨hsz, fun j oj hj hl' e he hb => ?_, fun t ht ht' => getD_in (by rw [hsz]; exact ht') (by rw [hget]; simp; omega)⟩
    rw [hget] at hl' ⊢
    have hjk : j < k := by simpa using hl'
    have := List.all_eq_true.1 hpre j (List.mem_range.2 hjk)
    rw [hj] at this
    simp only [List.all_eq_true] at this
    have := this e (by simpa using he)
    simpa [hb] using this
  have htl : ((l.take n).drop k).length = n - k := by simp; omega
  have hq := wpAnyQ_lex (C := C) (P := P) (md := .any) hsel ((l.take n).drop k) k (Array.replicate k true ++ Array.replicate (n - k) false) a (fun j => by simp [List.getElem?_drop]) (by rw [htl]; exact hlex) h
  have hcnt : ∀ n, k ≤ n → openCount n listed = n - k := by
    intro n
    induction n with
    | zero => intro h; unfold openCount; simp
    | succ n ih =>
      intro h
      unfold openCount at *
      rw [List.range_succ, List.filter_append, List.length_append]
      simp only [List.filter_cons, List.filter_nil, hget]
      by_cases h1 : n < k
      · have : k = n + 1 := by omega
        subst this
        have e0 : (List.range n).filter (fun i => !listed.getD i false) = [] := by
          rw [List.filter_eq_nil_iff]; intro i hi; rw [List.mem_range] at hi; simp only [hget]; simp; omega
        simp only [hget] at e0
        rw [e0]; simp
      · have := ih (by omega)
        simp only [hget] at this
        rw [this]
        simp [h1]; omega
  have := wpAny_headK (P := P) (C := C) (Q := Q) hn hbk hs hc hseq (n - k) listed (Array.replicate k true ++ Array.replicate (n - k) false) a w inv0 (fun j hj => by rw [hget]; simpa using hj) (by simp; omega) (fun j hj => by
    rw [hget]
    by_cases h1 : j < k
    · simp [Array.getElem?_append, h1]
    · simp only [h1, decide_false, Array.getD_eq_getD_getElem?, Array.getElem?_append, Array.size_replicate, if_false, Array.getElem?_replicate]
      split <;> rfl) (hcnt n hkn) hC (by
    rw [hcut]
    rw [htl] at hq
    simpa using hq)
  simpa using this
end
end Go.Proofs.YtgejndannlfhkaaDoor
