/- A region that draws its order: the first n operations are quiet in a class of worlds, the rest is forced behind them: one walk in the order of the text serves every order. -/
import Derived.Deep.Quiet
import Derived.StillTail
namespace Go.Proofs.YtgejndannlfhkaaDoor
open Go
section
variable {P : Program} {C : World → Prop}

/-- The edges of the first n operations lead back. -/
def backB (ops : Array Oper) (n : Nat) : Bool :=
  (List.range n).all fun j => match ops[j]? with
    | some oj => oj.after.all (fun e => !Region.binds .any e || decide (e.on < j)) && (match oj.guard with | some (g, _) => decide (g < n) | none => true)
    | none => false

def headTailB (ops : Array Oper) (n : Nat) : Bool :=
  decide (n < ops.size) && backB ops n && Region.sinkB .any ops n && Region.chainB .any ops n &&
  Region.lexB .any (ops.extract 0 n) && Region.seqB .any ops (ops.size - n) n ((Array.replicate n true) ++ Array.replicate (ops.size - n) false)

theorem backB_spec {ops : Array Oper} {n : Nat} (h : backB ops n = true) {j : Nat} (hj : j < n) : ∃ oj, ops[j]? = some oj ∧ (∀ e ∈ oj.after, Region.binds .any e = true → e.on < j) ∧ ∀ g b, oj.guard = some (g, b) → g < n := by
  have h1 := List.all_eq_true.1 h j (List.mem_range.2 hj)
  cases ho : ops[j]? with
  | none => simp [ho] at h1
  | some oj =>
    simp only [ho, Bool.and_eq_true] at h1
    refine ⟨oj, rfl, fun e he hb => ?_, fun g b hg => ?_⟩
    · have := Array.all_eq_true_iff_forall_mem.1 h1.1 e he
      simpa [hb] using this
    · have := h1.2
      simpa [hg] using this

/-- How many of the first n are not listed yet. -/
def openCount (n : Nat) (listed : Array Bool) : Nat := ((List.range n).filter fun i => !listed.getD i false).length

theorem openCount_pos {n : Nat} {listed : Array Bool} (h : openCount n listed ≠ 0) : ∃ i, i < n ∧ listed.getD i false = false ∧ ∀ j, j < i → listed.getD j false = true := by
  have hex : ∃ i, i < n ∧ listed.getD i false = false := by
    unfold openCount at h
    obtain ⟨i, hi⟩ := List.exists_mem_of_length_pos (Nat.pos_of_ne_zero h)
    rw [List.mem_filter, List.mem_range] at hi
    exact ⟨i, hi.1, by simpa using hi.2⟩
  obtain ⟨i, hi⟩ := hex
  induction i using Nat.strongRecOn with
  | _ i ih =>
    by_cases hall : ∀ j, j < i → listed.getD j false = true
    · exact ⟨i, hi.1, hi.2, hall⟩
    · obtain ⟨j, hj⟩ : ∃ j, ¬ (j < i → listed.getD j false = true) := Classical.not_forall.1 hall
      have hji : j < i := Classical.byContradiction fun hn => hj fun h => absurd h hn
      have hjf : listed.getD j false = false := by
        cases hx : listed.getD j false with
        | true => exact absurd (fun _ => hx) hj
        | false => rfl
      exact ih j hji ⟨by omega, hjf⟩

theorem openCount_set {n i : Nat} {listed : Array Bool} (hi : i < n) (hs : i < listed.size) (hf : listed.getD i false = false) : openCount n (listed.setIfInBounds i true) + 1 = openCount n listed := by
  unfold openCount
  have key : ∀ (l : List Nat), l.Nodup → (l.filter fun j => !(listed.setIfInBounds i true).getD j false).length + (if i ∈ l then 1 else 0) = (l.filter fun j => !listed.getD j false).length := by
    intro l
    induction l with
    | nil => simp
    | cons x l ih =>
      intro hnd
      have hnd' := (List.nodup_cons.1 hnd)
      have ih' := ih hnd'.2
      by_cases hx : x = i
      · subst hx
        have e1 : (listed.setIfInBounds x true).getD x false = true := by simp [hs]
        have hn : x ∉ l := hnd'.1
        simp only [List.filter_cons, e1, hf, Bool.not_true, Bool.not_false, if_true, Bool.false_eq_true, if_false, List.mem_cons, true_or, List.length_cons]
        rw [if_neg hn] at ih'
        omega
      · have e1 : (listed.setIfInBounds i true).getD x false = listed.getD x false := getD_set_ne false (fun h => hx h.symm)
        have e2 : (if i ∈ x :: l then 1 else 0) = (if i ∈ l then 1 else 0) := by
          by_cases hm : i ∈ l
          · rw [if_pos hm, if_pos (List.mem_cons_of_mem _ hm)]
          · rw [if_neg hm, if_neg (fun h => by rcases List.mem_cons.1 h with h | h; exact hx h.symm; exact hm h)]
        rw [e2]
        simp only [List.filter_cons, e1]
        split <;> (try simp only [List.length_cons]) <;> omega
  have := key (List.range n) List.nodup_range
  rw [if_pos (List.mem_range.2 hi)] at this
  exact this

theorem listed_full {ops : Array Oper} {n : Nat} {listed : Array Bool} (inv : HeadInv .any ops n listed) (hn : n < ops.size) (h : openCount n listed = 0) :
    listed = (Array.replicate n true) ++ Array.replicate (ops.size - n) false := by
  have hall : ∀ i, i < n → listed.getD i false = true := by
    intro i hi
    unfold openCount at h
    have h0 := List.eq_nil_of_length_eq_zero h
    cases hx : listed.getD i false with
    | true => rfl
    | false =>
      have : i ∈ (List.range n).filter fun i => !listed.getD i false := List.mem_filter.2 ⟨List.mem_range.2 hi, by rw [hx]; rfl⟩
      rw [h0] at this; cases this
  apply Array.ext
  · simp [inv.size]; omega
  · intro i h1 h2
    have hs := inv.size
    by_cases hi : i < n
    · have := hall i hi
      simp [h1] at this
      simp [hi, this]
    · have := inv.tail i (by omega) (by omega)
      simp [h1] at this
      simp [Array.getElem_append, hi, this]

theorem cut_get {ops : Array Oper} {n k : Nat} (hn : n < ops.size) (hk : k < n) : (ops.extract 0 n)[k]? = ops[k]? := by
  simp [Nat.min_eq_left (Nat.le_of_lt hn), hk]
theorem ready_head {ops : Array Oper} {n i : Nat} {listed listed' : Array Bool} (hin : i < n) (hs : listed'.size = n) (hsz : n < ops.size) (hag : ∀ j, j < n → listed'.getD j false = listed.getD j false)
    (hbk : backB ops n = true) : i ∈ Region.ready .any ops listed → i ∈ Region.ready .any (ops.extract 0 n) listed' := by
  intro h
  obtain ⟨h0, o, ho, hall⟩ := mem_ready.1 h
  obtain ⟨o', ho', hlt, _⟩ := backB_spec hbk hin
  have : o = o' := Option.some.inj (ho.symm.trans ho')
  subst this
  refine mem_ready.2 ⟨?_, o, ?_, fun e he hb => ?_⟩
  · have h1 := getD_both h0
    rw [← hag i hin] at h1
    exact getD_in (by omega) h1
  · rw [cut_get hsz hin]; exact ho
  · rw [hag _ (by have := hlt e he hb; omega)]; exact hall e he hb

theorem qOp_cut {ops : Array Oper} {n i : Nat} (hn : n < ops.size) (hin : i < n) (hbk : backB ops n = true) {K : Act → Prop} {a : Act} (h : qOp P (ops.extract 0 n) C i K a) : qOp P ops C i K a := by
  obtain ⟨o, ho, _, hg⟩ := backB_spec hbk hin
  have hget : ∀ k, k < n → (ops.extract 0 n)[k]? = ops[k]? := fun k hk => cut_get hn hk
  unfold qOp at *
  rw [hget i hin] at h
  rw [ho] at h ⊢
  simp only at h ⊢
  have hw : Region.wanted o (yielded (ops.extract 0 n) a.tmps) = Region.wanted o (yielded ops a.tmps) := by
    unfold Region.wanted
    split
    · rfl
    · rename_i j want hgd
      have := hg j want hgd
      unfold yielded
      rw [hget j this]
  rw [← hw]
  exact h

theorem wpAny_head {ops : Array Oper} {n : Nat} {Q : Exit → Act → World → Prop} (hn : n < ops.size) (hbk : backB ops n = true) (hs : Region.sinkB .any ops n = true) (hc : Region.chainB .any ops n = true)
    (hseq : Region.seqB .any ops (ops.size - n) n ((Array.replicate n true) ++ Array.replicate (ops.size - n) false) = true) :
    ∀ (f : Nat) (listed listed' : Array Bool) (a : Act) (w : World), HeadInv .any ops n listed → listed'.size = n → (∀ j, j < n → listed'.getD j false = listed.getD j false) → openCount n listed = f → C w →
      wpAnyQ P .any (ops.extract 0 n) C (fun a' => ∀ w', C w' → wpList P ops Q (ops.toList.drop n) a' w') f listed' a → wpAny P .any ops Q (f + (ops.size - n)) listed a w
  | 0, listed, listed', a, w, inv, _, _, hcnt, hw, h => by
    rw [Nat.zero_add]
    have hl : (ops.toList.drop n).length = ops.size - n := by simp
    have hlist := listed_full inv hn hcnt
    have := wpAny_of_seq (P := P) (md := .any) (Q' := Q) (ops.toList.drop n) n listed a w (fun j => by simp [List.getElem?_drop]) (by rw [hl, hlist]; exact hseq) (h.2 w hw)
    rwa [hl] at this
  | f + 1, listed, listed', a, w, inv, hs', hag, hcnt, hw, h => by
    rw [show f + 1 + (ops.size - n) = (f + (ops.size - n)) + 1 by omega]
    obtain ⟨i0, hi0, hf0, hall0⟩ := openCount_pos (n := n) (listed := listed) (by omega)
    obtain ⟨o0, ho0, hlt0, _⟩ := backB_spec hbk hi0
    have hr0 : i0 ∈ Region.ready .any ops listed := mem_ready.2 ⟨getD_in (by rw [inv.size]; omega) hf0, o0, ho0, fun e he hb => hall0 _ (hlt0 e he hb)⟩
    refine ⟨fun h0 => (by rw [h0] at hr0; cases hr0), fun i hi => ?_⟩
    have hin : i < n := by
      rcases Nat.lt_or_ge i n with h | h
      · exact h
      · exact absurd hi (tail_waits hs hc hn inv _ i0 rfl hi0 (getD_in (by rw [inv.size]; omega) hf0) i h)
    have hq := qOp_cut hn hin hbk (h.2 i (ready_head hin hs' hn hag hbk hi))
    have hun := getD_both (mem_ready.1 hi).1
    refine wpOp_of_qOp hw (fun a' w' hw' h' => ?_) hq
    refine wpAny_head hn hbk hs hc hseq f (listed.setIfInBounds i true) (listed'.setIfInBounds i true) a' w' (inv.set hi hin) (by simpa using hs') (fun j hj => ?_) ?_ hw' h'
    · by_cases hij : i = j
      · subst hij
        have h1 : i < listed.size := by rw [inv.size]; omega
        simp [hs', hj, h1]
      · rw [getD_set_ne false hij, getD_set_ne false hij]; exact hag j hj
    · have := openCount_set hin (by rw [inv.size]; omega) hun
      omega

theorem wp_region_quiet_tail {id : Nat} {Q : Exit → Act → World → Prop} {a : Act} {w : World} {l : List Oper} (n : Nat) (hm : P.follows .mixedOrders = true) (hB : headTailB l.toArray n = true) (hC : C { w with drawn := w.drawn + 1 })
    (h : wpQuiet P (l.take n).toArray C (fun a' => ∀ w', C w' → wpList P l.toArray Q (l.drop n) a' w') (l.take n) a) : (Code.region id l.toArray true).wp P Q a w := by
  simp only [headTailB, Bool.and_eq_true, decide_eq_true_eq] at hB
  obtain ⟨⟨⟨⟨⟨hn, hbk⟩, hs⟩, hc⟩, hlex⟩, hseq⟩ := hB
  have hn' : n < l.length := by simpa using hn
  have hcut : l.toArray.extract 0 n = (l.take n).toArray := by simp
  rw [hcut] at hlex
  simp only [Region.lexB, Bool.and_eq_true] at hlex
  refine wp_region_any hm ?_
  have inv0 : HeadInv .any l.toArray n (Array.replicate l.toArray.size false) :=
    ⟨by simp, fun j oj _ hl => (by rw [getD_replicate_false] at hl; cases hl), fun t _ ht => getD_in (by simpa using ht) (getD_replicate_false _ _)⟩
  have htl : (l.take n).length = n := by simp; omega
  have hq := wpAnyQ_lex (C := C) (P := P) (md := .any) hlex.1 (l.take n) 0 (Array.replicate (l.take n).toArray.size false) a (by simp) (by simpa using hlex.2) h
  have hcnt : openCount n (Array.replicate l.toArray.size false) = n := by
    unfold openCount
    rw [List.filter_eq_self.2 (fun i _ => by rw [getD_replicate_false]; rfl)]
    simp
  have := wpAny_head (P := P) (C := C) (Q := Q) hn hbk hs hc hseq n _ (Array.replicate n false) a { w with drawn := w.drawn + 1 } inv0 (by simp) (fun j hj => by rw [getD_replicate_false, getD_replicate_false]) hcnt hC (by
    rw [hcut]
    have e1 : (l.take n).toArray.size = n := by simpa using htl
    rw [htl, e1] at hq
    simpa using hq)
  rwa [show n + (l.toArray.size - n) = l.toArray.size by omega] at this

theorem wp_region_quiet_tail_lit {id : Nat} {Q : Exit → Act → World → Prop} {a : Act} {w : World} {l : List Oper} (n : Nat) (hm : P.follows .mixedOrders = true) (hB : headTailB l.toArray n = true)
    (h : wpQuiet P (l.take n).toArray (fun w' => ∃ m, w' = w.drewN m) (fun a' => ∀ w', (∃ m, w' = w.drewN m) → wpList P l.toArray Q (l.drop n) a' w') (l.take n) a) : (Code.region id l.toArray true).wp P Q a w :=
  wp_region_quiet_tail (C := fun w' => ∃ m, w' = w.drewN m) n hm hB ⟨1, rfl⟩ h

/-- These operations come up in this order alone. -/
def seqOnB (md : Region.Mode) (ops : Array Oper) : List Nat → Array Bool → Bool
  | [], listed => (Region.ready md ops listed).isEmpty
  | k :: ks, listed => decide (Region.ready md ops listed = [k]) && seqOnB md ops ks (listed.setIfInBounds k true)

/-- WHAT IS LEFT OF A REGION IS FORCED: it is walked in that order. -/
theorem wpAny_of_seqOn {md : Region.Mode} {ops : Array Oper} {Q' : Exit → Act → World → Prop} : ∀ (ks : List Nat) (l : List Oper) (listed : Array Bool) (a : Act) (w : World), ks.map (ops[·]?) = l.map some →
    seqOnB md ops ks listed = true → wpList P ops Q' l a w → wpAny P md ops Q' ks.length listed a w
  | [], [], _, _, _, _, hB, h => ⟨by simpa [seqOnB] using hB, h⟩
  | [], _ :: _, _, _, _, hl, _, _ => by simp at hl
  | _ :: _, [], _, _, _, hl, _, _ => by simp at hl
  | k :: ks, o :: l, listed, a, w, hl, hB, h => by
    simp only [List.map_cons, List.cons.injEq] at hl
    have h0 : ops[k]? = some o := hl.1
    simp only [seqOnB, Bool.and_eq_true, decide_eq_true_eq] at hB
    refine ⟨fun h1 => (by rw [hB.1] at h1; cases h1), fun i hi => ?_⟩
    rw [hB.1] at hi
    have hik : i = k := by simpa using hi
    subst hik
    have hw : wpOp P ops Q' i (wpList P ops Q' l) a w := by unfold wpOp; simp only [h0]; exact h
    exact wpOp_mono (fun a' w' h' => wpAny_of_seqOn ks l _ a' w' hl.2 hB.2 h') hw

/-- An operation that yields a value in whatever world is taken first. -/
theorem wpAny_take_now {md : Region.Mode} {ops : Array Oper} {Q : Exit → Act → World → Prop} (i : Nat) (d : Option Tmp) {oi : Oper} (v : Value) {fuel : Nat} {listed : Array Bool} {a : Act} {w : World} (hi : ops[i]? = some oi) (hd : oi.dst = d)
    (hs : (Region.noSelect ops && Region.free md ops listed i && (Region.ready md ops listed).contains i) = true)
    (hQ : ∀ c a w, Q (.panic c) (a.put d v) w → Q (.panic c) a w) (hw : Region.wanted oi (yielded ops a.tmps) = true) (hy : ∀ w, (execOp a.eval oi).run P w = .ok (.value v) w)
    (h : wpAny P md ops Q fuel (listed.setIfInBounds i true) (a.put d v) w) : wpAny P md ops Q (fuel + 1) listed a w := by
  subst hd
  simp only [Bool.and_eq_true] at hs
  exact wpAny_take hi hs.1.1 hs.1.2 hs.2 hQ (.inl ⟨hw, hy⟩) h
end
end Go.Proofs.YtgejndannlfhkaaDoor
