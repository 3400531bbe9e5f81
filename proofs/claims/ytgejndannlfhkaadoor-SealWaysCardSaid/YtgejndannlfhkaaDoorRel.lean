/- A region that draws its order: each operation leaves a fact of its value that later operations keep; one walk of the operations, each by itself, serves every order. No condition. -/
import Derived.Test.YtgejndannlfhkaaDoorMem
import Derived.Test.YtgejndannlfhkaaDoorFlow
namespace Go.Proofs.YtgejndannlfhkaaDoor
open Go Go.RowKit
section
variable {P : Program} {md : Region.Mode} {ops : Array Oper}

/-- The values vs in the temporaries of these operations. -/
def putAll (vs : Nat → Value) : List (Nat × Option Tmp) → Act → Act
  | [], a => a
  | (i, d) :: r, a => putAll vs r (a.put d (vs i))

theorem putAll_put (vs : Nat → Value) (d : Option Tmp) (v : Value) : ∀ (ds : List (Nat × Option Tmp)) (a : Act), (∀ x ∈ ds, ∀ t, d = some t → x.2 ≠ some t) → (putAll vs ds a).put d v = putAll vs ds (a.put d v)
  | [], _, _ => rfl
  | (i, e) :: r, a, h => by
    rw [putAll, putAll, putAll_put vs d v r _ (fun x hx => h x (List.mem_cons_of_mem _ hx))]
    rw [Act.put_comm a v (vs i) (fun t ht => h (i, e) (List.mem_cons_self ..) t ht)]

theorem put_put (a : Act) (d : Option Tmp) (v u : Value) : (a.put d v).put d u = a.put d u := by
  cases d with
  | none => rfl
  | some t => simp [Act.put]

theorem putAll_congr {vs vs' : Nat → Value} : ∀ (ds : List (Nat × Option Tmp)) (a : Act), (∀ x ∈ ds, vs x.1 = vs' x.1) → putAll vs ds a = putAll vs' ds a
  | [], _, _ => rfl
  | (i, e) :: r, a, h => by
    rw [putAll, putAll, h (i, e) (List.mem_cons_self ..)]
    exact putAll_congr r _ (fun x hx => h x (List.mem_cons_of_mem _ hx))

def updV (vs : Nat → Value) (i : Nat) (v : Value) : Nat → Value := fun j => if j = i then v else vs j

/-- Numbers and temporaries are all apart. -/
def apartB : List (Nat × Option Tmp) → Bool
  | [] => true
  | (i, d) :: r => r.all (fun x => x.1 != i && (match d with | some _ => x.2 != d | none => true)) && apartB r

theorem putAll_upd (vs : Nat → Value) (i : Nat) (d : Option Tmp) (v : Value) : ∀ (ds : List (Nat × Option Tmp)) (a : Act), apartB ds = true → (i, d) ∈ ds → (putAll vs ds a).put d v = putAll (updV vs i v) ds a
  | [], _, _, h => by cases h
  | (j, e) :: r, a, hb, h => by
    simp only [apartB, Bool.and_eq_true, List.all_eq_true] at hb
    rcases List.mem_cons.1 h with h | h
    · injection h with h1 h2
      subst h1 h2
      rw [putAll, putAll, putAll_put]
      · rw [put_put]
        have : updV vs i v i = v := by simp [updV]
        rw [this]
        refine putAll_congr r _ (fun x hx => ?_)
        have := (hb.1 x hx).1
        simp only [updV]
        rw [if_neg (by simpa using this)]
      · intro x hx t ht
        have := (hb.1 x hx).2
        rw [ht] at this
        simpa using this
    · have hne := hb.1 _ h
      have hij : j ≠ i := by have := hne.1; simp at this; exact fun e => this e.symm
      rw [putAll, putAll]
      have : updV vs i v j = vs j := by simp [updV, hij]
      rw [this]
      exact putAll_upd vs i d v r _ hb.2 h

/-- What lies in a temporary. -/
def tmpAt (a : Act) : Option Tmp → Value
  | some t => a.tmps.getD t undef
  | none => undef
theorem put_getD (a : Act) (d : Option Tmp) : a.put d (tmpAt a d) = a := by
  unfold tmpAt
  cases d with
  | none => rfl
  | some t =>
    simp only [Act.put]
    congr 1
    apply Array.ext
    · simp
    · intro k h1 h2
      rw [Array.getElem_setIfInBounds]
      split
      · rename_i e; subst e; simp [Array.getD, h2]
      · rfl

/-- The values that lie there. -/
theorem putAll_self : ∀ (ds : List (Nat × Option Tmp)) (a : Act), apartB ds = true → ∃ vs, a = putAll vs ds a
  | [], a, _ => ⟨fun _ => undef, rfl⟩
  | (i, d) :: r, a, hb => by
    simp only [apartB, Bool.and_eq_true, List.all_eq_true] at hb
    obtain ⟨vs, h⟩ := putAll_self r a hb.2
    refine ⟨updV vs i (tmpAt a d), ?_⟩
    rw [putAll]
    have e1 : ∀ v, updV vs i v i = v := fun v => by simp [updV]
    rw [e1, put_getD, putAll_congr (vs' := vs) r a]
    · exact h
    · intro x hx
      have := (hb.1 x hx).1
      simp only [updV]
      rw [if_neg (by simpa using this)]

def depends (md : Region.Mode) (o : Oper) (j : Nat) : Bool := o.after.toList.any fun e => Region.binds md e && e.on == j

abbrev Known := List (Nat × (Value → World → Prop))

/-- What is known of what an operation waits for. -/
def Needs (md : Region.Mode) (o : Oper) (vs : Nat → Value) (w : World) : Known → Prop
  | [] => True
  | (j, T) :: r => (depends md o j = true → T (vs j) w) ∧ Needs md o vs w r
/-- All that is known. -/
def Knows (vs : Nat → Value) (w : World) : Known → Prop
  | [] => True
  | (j, T) :: r => T (vs j) w ∧ Knows vs w r

/-- One operation by itself: it ends as ever and leaves K of its value. -/
def stepQ (Q : Exit → Act → World → Prop) (a : Act) (d : Option Tmp) (K : Value → World → Prop) : Exit → Act → World → Prop
  | .normal, a', w' => ∃ v, a' = a.put d v ∧ K v w'
  | e, a', w' => Q e a' w'

variable (P md ops)
/-- The walk: one operation after another, in the order of the text; each is handed what is known of those that it waits for. -/
def relWalk (E : World → World → Prop) (C : World → Prop) (Q : Exit → Act → World → Prop) (tl : List Oper) (a : Act) (all : List (Nat × Option Tmp)) : List (Nat × Option Tmp) → Known → Prop
  | [], known => ∀ vs w', C w' → Knows vs w' known → wpList P ops Q tl (putAll vs all a) w'
  | (i, d) :: rest, known => ∃ T : Value → World → Prop, (∀ v w w', T v w → E w w' → T v w') ∧
    (∀ vs w', C w' → Needs md (ops.getD i default) vs w' known → wpList P ops (stepQ Q (putAll vs all a) d (fun v w'' => T v w'' ∧ E w' w'')) [ops.getD i default] (putAll vs all a) w') ∧
    relWalk E C Q tl a all rest ((i, T) :: known)

/-- Edges lead back; what is listed has what it waits for; those that are not listed are these, in order, and then the tail, one behind another; their temporaries are these. -/
def relB (listed : Array Bool) (ds : List (Nat × Option Tmp)) (tail : List Nat) : Bool :=
  decide (listed.size = ops.size) && apartB ds && (ds.all fun x => decide (x.1 < ops.size) && ((ops.getD x.1 default).dst == x.2) && !listed.getD x.1 true && !tail.contains x.1) &&
  ((List.range ops.size).all fun i => listed.getD i false || ds.any (·.1 == i) || tail.contains i) &&
  ((List.range ops.size).all fun i => (ops.getD i default).after.toList.all fun e => !Region.binds md e || decide (e.on < i)) &&
  ((List.range ops.size).all fun i => !listed.getD i false || (ops.getD i default).after.toList.all fun e => !Region.binds md e || listed.getD e.on false) &&
  (tail.all fun k => decide (k < ops.size) && !listed.getD k true) &&
  (match tail with
   | [] => true
   | k :: _ => ds.all fun x => depends md (ops.getD k default) x.1 || ds.any fun y => decide (x.1 < y.1) && depends md (ops.getD y.1 default) x.1) &&
  ((tail.zip tail.tail).all fun x => depends md (ops.getD x.2 default) x.1) &&
  seqOnB md ops tail ((List.range ops.size).map fun i => !tail.contains i).toArray
variable {P md ops}

theorem depends_spec {o : Oper} {j : Nat} (h : depends md o j = true) : ∃ e ∈ o.after, Region.binds md e = true ∧ e.on = j := by
  unfold depends at h
  obtain ⟨e, he, hh⟩ := List.any_eq_true.1 h
  simp only [Bool.and_eq_true, beq_iff_eq] at hh
  exact ⟨e, by simpa using he, hh.1, hh.2⟩

/-- The facts, flat. -/
structure RelFlat (P : Program) (md : Region.Mode) (ops : Array Oper) (E : World → World → Prop) (C : World → Prop) (Q : Exit → Act → World → Prop) (tl : List Oper) (a : Act) (all : List (Nat × Option Tmp)) (S : Nat → Value → World → Prop) : Prop where
  stable : ∀ i v w w', S i v w → E w w' → S i v w'
  step : ∀ i d, (i, d) ∈ all → ∀ vs w', C w' → (∀ j, (∃ e, (j, e) ∈ all) → depends md (ops.getD i default) j = true → S j (vs j) w') → wpList P ops (stepQ Q (putAll vs all a) d (fun v w'' => S i v w'' ∧ E w' w'')) [ops.getD i default] (putAll vs all a) w'
  done : ∀ vs w', C w' → (∀ j, (∃ e, (j, e) ∈ all) → S j (vs j) w') → wpList P ops Q tl (putAll vs all a) w'

theorem needs_of {o : Oper} {vs : Nat → Value} {w : World} {S : Nat → Value → World → Prop} : ∀ {known : Known}, (∀ x ∈ known, S x.1 = x.2) → (∀ x ∈ known, depends md o x.1 = true → S x.1 (vs x.1) w) → Needs md o vs w known
  | [], _, _ => trivial
  | (j, T) :: r, h1, h2 => ⟨fun hd => by have := h2 (j, T) (List.mem_cons_self ..) hd; rw [h1 (j, T) (List.mem_cons_self ..)] at this; exact this, needs_of (fun x hx => h1 x (List.mem_cons_of_mem _ hx)) (fun x hx => h2 x (List.mem_cons_of_mem _ hx))⟩
theorem knows_of {vs : Nat → Value} {w : World} {S : Nat → Value → World → Prop} : ∀ {known : Known}, (∀ x ∈ known, S x.1 = x.2) → (∀ x ∈ known, S x.1 (vs x.1) w) → Knows vs w known
  | [], _, _ => trivial
  | (j, T) :: r, h1, h2 => ⟨by have := h2 (j, T) (List.mem_cons_self ..); rw [h1 (j, T) (List.mem_cons_self ..)] at this; exact this, knows_of (fun x hx => h1 x (List.mem_cons_of_mem _ hx)) (fun x hx => h2 x (List.mem_cons_of_mem _ hx))⟩

/-- A walk gives facts: those of the rest, beside what is known. -/
theorem relWalk_flat {E : World → World → Prop} {C : World → Prop} {Q : Exit → Act → World → Prop} {tl : List Oper} {a : Act} {all : List (Nat × Option Tmp)} : ∀ (ds : List (Nat × Option Tmp)) (known : Known), apartB ds = true → (∀ x ∈ ds, ∀ y ∈ known, x.1 ≠ y.1) →
    relWalk P md ops E C Q tl a all ds known → ∃ S : Nat → Value → World → Prop, (∀ x ∈ known, (∀ y ∈ known, y.1 = x.1 → y.2 = x.2) → S x.1 = x.2) ∧ (∀ x ∈ ds, ∀ v w w', S x.1 v w → E w w' → S x.1 v w') ∧
      (∀ pre x post, ds = pre ++ x :: post → ∀ vs w', C w' → (∀ y ∈ known, (∀ z ∈ known, z.1 = y.1 → z.2 = y.2) ∧ (depends md (ops.getD x.1 default) y.1 = true → y.2 (vs y.1) w')) → (∀ y ∈ pre, depends md (ops.getD x.1 default) y.1 = true → S y.1 (vs y.1) w') →
        wpList P ops (stepQ Q (putAll vs all a) x.2 (fun v w'' => S x.1 v w'' ∧ E w' w'')) [ops.getD x.1 default] (putAll vs all a) w') ∧
      (∀ vs w', C w' → (∀ y ∈ known, y.2 (vs y.1) w') → (∀ y ∈ ds, S y.1 (vs y.1) w') → wpList P ops Q tl (putAll vs all a) w')
  | [], known, _, _, h => by
    refine ⟨fun j => match known.find? (·.1 == j) with | some y => y.2 | none => fun _ _ => True, ?_, by simp, ?_, ?_⟩
    · intro x hx hu
      have : (known.find? (·.1 == x.1)).isSome := by rw [List.find?_isSome]; exact ⟨x, hx, by simp⟩
      obtain ⟨y, hy⟩ := Option.isSome_iff_exists.1 this
      simp only [hy]
      exact hu y (List.mem_of_find?_eq_some hy) (by simpa using List.find?_some hy)
    · intro pre x post e; simp at e
    · intro vs w' hC hk _
      refine h vs w' hC ?_
      clear h
      have go : ∀ known : Known, (∀ y ∈ known, y.2 (vs y.1) w') → Knows vs w' known := by
        intro known
        induction known with
        | nil => exact fun _ => trivial
        | cons y r ih => exact fun hk => ⟨hk y (List.mem_cons_self ..), ih (fun z hz => hk z (List.mem_cons_of_mem _ hz))⟩
      exact go known hk
  | (i, d) :: rest, known, hap, hne, h => by
    obtain ⟨T, hT, hstep, hrest⟩ := h
    simp only [apartB, Bool.and_eq_true, List.all_eq_true] at hap
    have hap1 : ∀ x ∈ rest, x.1 ≠ i := fun x hx => by have := (hap.1 x hx).1; simpa using this
    obtain ⟨S, h1, h2, h3, h4⟩ := relWalk_flat rest ((i, T) :: known) hap.2 (fun x hx y hy => by
      rcases List.mem_cons.1 hy with rfl | hy
      · exact hap1 x hx
      · exact hne x (List.mem_cons_of_mem _ hx) y hy) hrest
    have hiu : ∀ y ∈ (i, T) :: known, y.1 = i → y.2 = T := fun y hy e => by
      rcases List.mem_cons.1 hy with rfl | hy
      · rfl
      · exact absurd e.symm (hne (i, d) (List.mem_cons_self ..) y hy)
    have hS : S i = T := h1 (i, T) (List.mem_cons_self ..) hiu
    refine ⟨S, ?_, ?_, ?_, ?_⟩
    · intro x hx hu
      refine h1 x (List.mem_cons_of_mem _ hx) (fun y hy e => ?_)
      rcases List.mem_cons.1 hy with rfl | hy
      · exact absurd e (hne (i, d) (List.mem_cons_self ..) x hx)
      · exact hu y hy e
    · intro x hx
      rcases List.mem_cons.1 hx with rfl | hx
      · rw [hS]; exact hT
      · exact h2 x hx
    · intro pre x post e vs w' hC hk hp
      cases pre with
      | nil =>
        injection e with e1 e2
        subst e1
        rw [hS]
        refine hstep vs w' hC ?_
        clear h1 h2 h3 h4 hstep hrest hiu
        induction known with
        | nil => trivial
        | cons y r ih =>
          refine ⟨(hk y (List.mem_cons_self ..)).2, ih (fun x hx z hz => hne x hx z (List.mem_cons_of_mem _ hz)) (fun z hz => ⟨fun u hu => (hk z (List.mem_cons_of_mem _ hz)).1 u (List.mem_cons_of_mem _ hu), (hk z (List.mem_cons_of_mem _ hz)).2⟩)⟩
      | cons p pre =>
        injection e with e1 e2
        subst e1
        refine h3 pre x post e2 vs w' hC (fun y hy => ?_) (fun y hy => hp y (List.mem_cons_of_mem _ hy))
        rcases List.mem_cons.1 hy with rfl | hy'
        · refine ⟨fun z hz e => hiu z hz e, fun hd => ?_⟩
          have := hp (i, d) (List.mem_cons_self ..) hd
          rw [hS] at this
          exact this
        · refine ⟨fun z hz e => ?_, (hk y hy').2⟩
          rcases List.mem_cons.1 hz with rfl | hz
          · exact absurd e (hne (i, d) (List.mem_cons_self ..) y hy')
          · exact (hk y hy').1 z hz e
    · intro vs w' hC hk hd
      refine h4 vs w' hC (fun y hy => ?_) (fun y hy => hd y (List.mem_cons_of_mem _ hy))
      rcases List.mem_cons.1 hy with rfl | hy
      · have := hd (i, d) (List.mem_cons_self ..)
        rw [hS] at this
        exact this
      · exact hk y hy

theorem wpList_step_mono {o : Oper} {Q : Exit → Act → World → Prop} {a : Act} {w : World} {d : Option Tmp} {K : Value → World → Prop} {next : Act → World → Prop} (hn : ∀ v w', K v w' → next (a.put d v) w')
    (h : wpList P ops (stepQ Q a d K) [o] a w) : if Region.wanted o (yielded ops a.tmps) then o.wp P a w next Q ∨ (o.asks P a w ∧ LetsOut Q) else next (a.put o.dst undef) w := by
  unfold wpList at h
  split
  · rename_i hw
    simp only [hw, if_true] at h
    rcases h with h | h
    · refine .inl ?_
      unfold Oper.wp at *
      generalize (execOp a.eval o).run P w = r at *
      cases r with
      | ok n w' =>
        cases n <;> simp only [Oper.upon] at h ⊢
        case value v => obtain ⟨u, e, hk⟩ := h; rw [e]; exact hn _ _ hk
        case skip => obtain ⟨u, e, hk⟩ := h; rw [e]; exact hn _ _ hk
        case defer d => obtain ⟨u, e, hk⟩ := h; rw [e]; exact hn _ _ hk
        case enter f args =>
          refine h.mono fun e w'' he => ?_
          cases e with
          | returned v => obtain ⟨u, e, hk⟩ := he; exact (by simp only at e ⊢; rw [e]; exact hn _ _ hk)
          | panicked c => exact he
          | outgrown => exact he
        case row r args => exact h.mono fun v w'' ⟨u, e, hk⟩ => by rw [e]; exact hn _ _ hk
      | halt x w' => cases x <;> simp only [Oper.upon] at h ⊢ <;> exact h
    · exact .inr ⟨h.1, h.2⟩
  · rename_i hw
    simp only [hw, Bool.false_eq_true, if_false] at h
    obtain ⟨u, e, hk⟩ := h
    rw [e]; exact hn _ _ hk

/-- What holds of what is listed. -/
structure RelInv (md : Region.Mode) (ops : Array Oper) (all : List (Nat × Option Tmp)) (tail : List Nat) (listed : Array Bool) : Prop where
  size : listed.size = ops.size
  cases : ∀ i, i < ops.size → listed.getD i false = false → (∃ d, (i, d) ∈ all) ∨ i ∈ tail
  down : ∀ i, i < ops.size → listed.getD i false = true → ∀ e ∈ (ops.getD i default).after, Region.binds md e = true → listed.getD e.on false = true
  tail : ∀ k ∈ tail, listed.getD k false = false

theorem wpAny_flat {E : World → World → Prop} {C : World → Prop} {Q : Exit → Act → World → Prop} {tl : List Oper} {tail : List Nat} {a0 : Act} {all : List (Nat × Option Tmp)} {S : Nat → Value → World → Prop} (hCE : ∀ w w', C w → E w w' → C w')
    (hap : apartB all = true) (hall : ∀ x ∈ all, x.1 < ops.size ∧ (ops.getD x.1 default).dst = x.2 ∧ x.1 ∉ tail) (hback : ∀ i, i < ops.size → ∀ e ∈ (ops.getD i default).after, Region.binds md e = true → e.on < i)
    (htl : tail.map (ops[·]?) = tl.map some) (htlt : ∀ k ∈ tail, k < ops.size)
    (hsink : ∀ k r, tail = k :: r → ∀ x ∈ all, depends md (ops.getD k default) x.1 = true ∨ ∃ y ∈ all, x.1 < y.1 ∧ depends md (ops.getD y.1 default) x.1 = true)
    (hchain : ∀ x ∈ tail.zip tail.tail, depends md (ops.getD x.2 default) x.1 = true)
    (hseq : seqOnB md ops tail ((List.range ops.size).map fun i => !tail.contains i).toArray = true)
    (F : RelFlat P md ops E C Q tl a0 all S) : ∀ (n : Nat) (listed : Array Bool) (vs : Nat → Value) (w : World), RelInv md ops all tail listed →
      (all.filter fun x => !listed.getD x.1 false).length = n → C w → (∀ i d, (i, d) ∈ all → listed.getD i false = true → S i (vs i) w) →
      wpAny P md ops Q (n + tail.length) listed (putAll vs all a0) w
  | 0, listed, vs, w, inv, hcnt, hC, hS => by
    have hfull : ∀ x ∈ all, listed.getD x.1 false = true := fun x hx => by
      cases hl : listed.getD x.1 false with
      | true => rfl
      | false =>
        have : x ∈ all.filter fun x => !listed.getD x.1 false := by
          rw [List.mem_filter]; exact ⟨hx, by simp only [hl]; rfl⟩
        rw [List.eq_nil_of_length_eq_zero hcnt] at this
        cases this
    have hL : listed = ((List.range ops.size).map fun i => !tail.contains i).toArray := by
      apply Array.ext
      · simp [inv.size]
      · intro i h1 h2
        have hi : i < ops.size := by rw [← inv.size]; exact h1
        have hg : listed.getD i false = listed[i] := by simp [Array.getD, h1]
        rw [← hg]
        simp only [List.getElem_toArray, List.getElem_map, List.getElem_range]
        cases hl : listed.getD i false with
        | true =>
          have : i ∉ tail := fun hm => by rw [inv.tail i hm] at hl; cases hl
          simp [this]
        | false =>
          rcases inv.cases i hi hl with ⟨d, hd⟩ | hm
          · rw [hfull _ hd] at hl; cases hl
          · simp [hm]
    rw [Nat.zero_add]
    refine wpAny_of_seqOn tail tl listed _ w htl (by rw [hL]; exact hseq) (F.done vs w hC (fun j ⟨e, he⟩ => hS j e he (hfull _ he)))
  | n + 1, listed, vs, w, inv, hcnt, hC, hS => by
    have hsz := inv.size
    -- one of them is not listed: the last such
    have hex : ∃ x ∈ all, listed.getD x.1 false = false := by
      obtain ⟨x, hx⟩ := List.exists_mem_of_length_pos (l := all.filter fun x => !listed.getD x.1 false) (by omega)
      rw [List.mem_filter] at hx
      exact ⟨x, hx.1, by simpa using hx.2⟩
    have hmax : ∀ n, (∃ x ∈ all, listed.getD x.1 false = false ∧ ops.size - x.1 ≤ n) → ∃ x ∈ all, listed.getD x.1 false = false ∧ ∀ y ∈ all, x.1 < y.1 → listed.getD y.1 false = true := by
      intro n
      induction n with
      | zero => rintro ⟨x, hx, _, h⟩; have := (hall x hx).1; omega
      | succ n ih =>
        rintro ⟨x, hx, hl, h⟩
        by_cases hh : ∃ y ∈ all, x.1 < y.1 ∧ listed.getD y.1 false = false
        · obtain ⟨y, hy, hlt, hly⟩ := hh
          exact ih ⟨y, hy, hly, by have := (hall x hx).1; omega⟩
        · refine ⟨x, hx, hl, fun y hy hlt => ?_⟩
          cases hly : listed.getD y.1 false with
          | true => rfl
          | false => exact absurd ⟨y, hy, hlt, hly⟩ hh
    have hreadyIn : ∀ i, i ∈ Region.ready md ops listed → ∃ d, (i, d) ∈ all := by
      intro i hi
      obtain ⟨h0, o, ho, hwait⟩ := mem_ready.1 hi
      have hlt : i < ops.size := (Array.getElem?_eq_some_iff.1 ho).1
      have hlt' : i < listed.size := by omega
      have hlf : listed.getD i false = false := by simp [Array.getD, hlt'] at h0 ⊢; exact h0
      have hoD : ops.getD i default = o := by simp [Array.getD, hlt]; exact (Array.getElem?_eq_some_iff.1 ho).2
      rcases inv.cases i hlt hlf with h | hm
      · exact h
      · exfalso
        obtain ⟨x0, hx0, hl0⟩ := hex
        obtain ⟨x, hx, hlx, hup⟩ := hmax _ ⟨x0, hx0, hl0, Nat.le_refl _⟩
        obtain ⟨k, r, hkr⟩ : ∃ k r, tail = k :: r := by
          cases tail with
          | nil => cases hm
          | cons k r => exact ⟨k, r, rfl⟩
        by_cases hik : i = k
        · subst hik
          rcases hsink i r hkr x hx with hd | ⟨y, hy, hxy, hd⟩
          · rw [hoD] at hd
            obtain ⟨e, he, hb, hon⟩ := depends_spec hd
            have := hwait e he hb
            rw [hon, hlx] at this; cases this
          · obtain ⟨e, he, hb, hon⟩ := depends_spec hd
            have := inv.down y.1 (hall y hy).1 (hup y hy hxy) e he hb
            rw [hon, hlx] at this; cases this
        · -- its forerunner in the tail is not listed
          have : ∃ p, (p, i) ∈ tail.zip tail.tail := by
            rw [hkr] at hm ⊢
            simp only [List.tail_cons]
            have hir : i ∈ r := by rcases List.mem_cons.1 hm with h | h; exact absurd h hik; exact h
            clear hm hkr hik
            induction r generalizing k with
            | nil => cases hir
            | cons q r ih =>
              rcases List.mem_cons.1 hir with h | h
              · exact ⟨k, by rw [h]; simp⟩
              · obtain ⟨p, hp⟩ := ih q h
                exact ⟨p, by simp only [List.zip_cons_cons, List.mem_cons]; exact .inr hp⟩
          obtain ⟨p, hp⟩ := this
          have hd := hchain _ hp
          simp only at hd
          rw [hoD] at hd
          obtain ⟨e, he, hb, hon⟩ := depends_spec hd
          have := hwait e he hb
          rw [hon, inv.tail p (List.of_mem_zip hp).1] at this
          cases this
    rw [show n + 1 + tail.length = (n + tail.length) + 1 by omega]
    refine ⟨fun h0 => ?_, fun i hi => ?_⟩
    · -- the first one that is not listed is ready
      exfalso
      have hex2 : ∃ i, i < ops.size ∧ listed.getD i false = false := by
        obtain ⟨x, hx, hl⟩ := hex
        exact ⟨x.1, (hall x hx).1, hl⟩
      have hmin : ∀ n, (∃ i, i < n ∧ i < ops.size ∧ listed.getD i false = false) → ∃ i, i < ops.size ∧ listed.getD i false = false ∧ ∀ j, j < i → listed.getD j false = true := by
        intro n
        induction n with
        | zero => rintro ⟨i, h, _⟩; omega
        | succ n ih =>
          rintro ⟨i, h1, h2, h3⟩
          by_cases hh : ∃ i, i < n ∧ i < ops.size ∧ listed.getD i false = false
          · exact ih hh
          · refine ⟨i, h2, h3, fun j hj => ?_⟩
            cases hl : listed.getD j false with
            | true => rfl
            | false => exact absurd ⟨j, by omega, by omega, hl⟩ hh
      obtain ⟨i, hi, hl⟩ := hex2
      obtain ⟨i, hi, hl, hmn⟩ := hmin ops.size ⟨i, hi, hi, hl⟩
      have hr : i ∈ Region.ready md ops listed := by
        refine mem_ready.2 ⟨?_, ops[i], Array.getElem?_eq_getElem hi, fun e he hb => ?_⟩
        · have hlt' : i < listed.size := by omega
          simp [Array.getD, hlt'] at hl ⊢; exact hl
        · refine hmn _ (hback i hi e ?_ hb)
          simpa [Array.getD, hi] using he
      rw [h0] at hr; cases hr
    · obtain ⟨d, hd⟩ := hreadyIn i hi
      obtain ⟨h0, o, ho, hwait⟩ := mem_ready.1 hi
      have hlt : i < ops.size := (Array.getElem?_eq_some_iff.1 ho).1
      have hlt' : i < listed.size := by omega
      have hlf : listed.getD i false = false := by simp [Array.getD, hlt'] at h0 ⊢; exact h0
      have hoD : ops.getD i default = o := by simp [Array.getD, hlt]; exact (Array.getElem?_eq_some_iff.1 ho).2
      have hdst : o.dst = d := by rw [← hoD]; exact (hall _ hd).2.1
      have hst := F.step i d hd vs w hC (fun j ⟨e, he⟩ hdep => by
        obtain ⟨e2, he2, hb2, hon⟩ := depends_spec hdep
        rw [hoD] at he2
        have := hwait e2 he2 hb2
        rw [hon] at this
        exact hS j e he this)
      rw [hoD] at hst
      unfold wpOp
      simp only [ho]
      refine wpList_step_mono (fun v w' hK => ?_) hst
      rw [putAll_upd vs i d v all a0 hap hd]
      have hset : ∀ j, j ≠ i → (listed.setIfInBounds i true).getD j false = listed.getD j false := fun j hj => getD_set_ne false (fun e => hj e.symm)
      have hsi : (listed.setIfInBounds i true).getD i false = true := by simp [Array.getD, hlt']
      refine wpAny_flat hCE hap hall hback htl htlt hsink hchain hseq F n _ _ w' ⟨by simpa using hsz, fun j hj hl => ?_, fun j hj hl e he hb => ?_, fun k hk => ?_⟩ ?_ (hCE _ _ hC hK.2) (fun j e he hl => ?_)
      · by_cases e : j = i
        · subst e; rw [hsi] at hl; cases hl
        · rw [hset j e] at hl; exact inv.cases j hj hl
      · by_cases e1 : j = i
        · subst e1
          rw [hoD] at he
          have := hwait e he hb
          by_cases e2 : e.on = j
          · rw [e2]; exact hsi
          · rw [hset _ e2]; exact this
        · rw [hset j e1] at hl
          have := inv.down j hj hl e he hb
          by_cases e2 : e.on = i
          · rw [e2]; exact hsi
          · rw [hset _ e2]; exact this
      · have : k ≠ i := fun e => (hall _ hd).2.2 (by rw [← e]; exact hk)
        rw [hset k this]; exact inv.tail k hk
      · have hrec : ∀ l : List (Nat × Option Tmp), apartB l = true → (i, d) ∈ l → (l.filter fun x => !listed.getD x.1 false).length = (l.filter fun x => !(listed.setIfInBounds i true).getD x.1 false).length + 1 := by
          intro l
          induction l with
          | nil => intro _ h; cases h
          | cons y l ih =>
            intro hb hm
            obtain ⟨j, dj⟩ := y
            simp only [apartB, Bool.and_eq_true, List.all_eq_true] at hb
            rcases List.mem_cons.1 hm with h | h
            · injection h with h1 h2
              subst h1
              have e1 : l.filter (fun x => !listed.getD x.1 false) = l.filter (fun x => !(listed.setIfInBounds i true).getD x.1 false) := by
                refine List.filter_congr fun x hx => ?_
                have := (hb.1 x hx).1
                rw [hset x.1 (by simpa using this)]
              simp only [List.filter_cons, hlf, hsi, e1]
              simp
            · have hne : j ≠ i := by have := (hb.1 _ h).1; simp at this; exact fun e => this e.symm
              have e2 := hset j hne
              simp only [List.filter_cons, e2]
              have := ih hb.2 h
              split <;> (try simp only [List.length_cons]) <;> omega
        have := hrec all hap hd
        omega
      · by_cases e : j = i
        · subst e
          simp only [updV, if_true]
          exact hK.1
        · rw [hset j e] at hl
          simp only [updV, if_neg e]
          exact F.stable _ _ _ _ (hS j _ he hl) hK.2

/-- THE WALK SERVES EVERY ORDER. -/
theorem wpAny_rel (all : List (Nat × Option Tmp)) (tail : List Nat) (tl : List Oper) (E : World → World → Prop) (C : World → Prop) {Q : Exit → Act → World → Prop} {fuel : Nat} {listed : Array Bool} {a : Act} {w : World} (htl : tail.map (ops[·]?) = tl.map some) (hB : relB md ops listed all tail = true) (hf : all.length + tail.length = fuel)
    (hCE : ∀ w w', C w → E w w' → C w') (hC : C w) (h : relWalk P md ops E C Q tl a all all []) : wpAny P md ops Q fuel listed a w := by
  simp only [relB, Bool.and_eq_true, decide_eq_true_eq, List.all_eq_true, List.mem_range] at hB
  obtain ⟨⟨⟨⟨⟨⟨⟨⟨⟨hsz, hap⟩, hall⟩, hin⟩, hback⟩, hdown⟩, htail⟩, hsink⟩, hchain⟩, hseq⟩ := hB
  obtain ⟨S, _, h2, h3, h4⟩ := relWalk_flat all [] hap (fun _ _ _ hy => by cases hy) h
  obtain ⟨vs, hvs⟩ := putAll_self all a hap
  have hall' : ∀ x ∈ all, x.1 < ops.size ∧ (ops.getD x.1 default).dst = x.2 ∧ x.1 ∉ tail := fun x hx => by
    have := hall x hx
    exact ⟨this.1.1.1, by simpa using this.1.1.2, by simpa using this.2⟩
  have hun : ∀ x ∈ all, listed.getD x.1 false = false := fun x hx => by
    have h1 := (hall x hx).1.2
    have h2 := (hall' x hx).1
    have hlt : x.1 < listed.size := by omega
    simp [Array.getD, hlt] at h1 ⊢
    exact h1
  have hunt : ∀ k ∈ tail, listed.getD k false = false := fun k hk => by
    have h1 := htail k hk
    have hlt : k < listed.size := by omega
    have h3 := h1.2
    simp [Array.getD, hlt] at h3 ⊢
    exact h3
  have hin' : ∀ i, i < ops.size → listed.getD i false = false → (∃ d, (i, d) ∈ all) ∨ i ∈ tail := fun i hi hl => by
    have := hin i hi
    rw [hl] at this
    simp only [Bool.false_or, Bool.or_eq_true] at this
    rcases this with this | this
    · rw [List.any_eq_true] at this
      obtain ⟨x, hx, e⟩ := this
      have : x.1 = i := by simpa using e
      exact .inl ⟨x.2, by rw [← this]; exact hx⟩
    · exact .inr (by simpa using this)
  have hcnt : (all.filter fun x => !listed.getD x.1 false).length = all.length := by
    rw [List.filter_eq_self.2 (fun x hx => by rw [hun x hx]; rfl)]
  rw [hvs]
  have hmem : ∀ i, (∃ e, (i, e) ∈ all) → ∃ x ∈ all, x.1 = i := fun i ⟨e, he⟩ => ⟨(i, e), he, rfl⟩
  rw [← hf]
  refine wpAny_flat (S := fun i v w => (∃ e, (i, e) ∈ all) → S i v w) (tl := tl) hCE hap hall' (fun i hi e he hb => ?_) htl (fun k hk => (htail k hk).1) (fun k r hk x hx => ?_) (fun x hx => hchain x hx) hseq ⟨?_, ?_, ?_⟩ all.length listed vs w
    ⟨hsz, hin', fun i hi hl e he hb => ?_, hunt⟩ hcnt hC (fun i d hd hl => by rw [hun _ hd] at hl; cases hl)
  · have := hback i hi e (by simpa using he)
    simpa [hb] using this
  · subst hk
    have := List.all_eq_true.1 hsink x hx
    simp only [Bool.or_eq_true, List.any_eq_true, Bool.and_eq_true, decide_eq_true_eq] at this
    exact this
  · intro i v w1 w2 hs hE hi
    obtain ⟨x, hx, rfl⟩ := hmem i hi
    exact h2 x hx _ _ _ (hs hi) hE
  · intro i d hd vs w' hC' hn
    obtain ⟨pre, post, e⟩ := List.append_of_mem hd
    have := h3 pre (i, d) post e vs w' hC' (fun y hy => by cases hy) (fun y hy hdep => hn y.1 ⟨y.2, by rw [e]; exact List.mem_append_left _ hy⟩ hdep ⟨y.2, by rw [e]; exact List.mem_append_left _ hy⟩)
    have hk : ∀ v w'', (S i v w'' ∧ E w' w'') → (((∃ e, (i, e) ∈ all) → S i v w'') ∧ E w' w'') := fun v w'' hh => ⟨fun _ => hh.1, hh.2⟩
    unfold wpList at this ⊢
    split
    · rename_i hw
      simp only [hw, if_true] at this
      refine this.imp (fun h => ?_) (fun h => ⟨h.1, ?_⟩)
      · unfold Oper.wp at *
        generalize (execOp (putAll vs all a).eval (ops.getD (i, d).fst default)).run P w' = r at *
        cases r with
        | ok n w1 =>
          cases n <;> simp only [Oper.upon] at h ⊢
          case value v => obtain ⟨u, e, hh⟩ := h; exact ⟨u, e, hk _ _ hh⟩
          case skip => obtain ⟨u, e, hh⟩ := h; exact ⟨u, e, hk _ _ hh⟩
          case defer d => obtain ⟨u, e, hh⟩ := h; exact ⟨u, e, hk _ _ hh⟩
          case enter f args =>
            refine h.mono fun e w'' he => ?_
            cases e with
            | returned v => obtain ⟨u, e, hh⟩ := he; exact ⟨u, e, hk _ _ hh⟩
            | panicked c => exact he
            | outgrown => exact he
          case row r args => exact h.mono fun v w'' ⟨u, e, hh⟩ => ⟨u, e, hk _ _ hh⟩
        | halt x w1 => cases x <;> simp only [Oper.upon] at h ⊢ <;> exact h
      · exact h.2
    · rename_i hw
      simp only [hw, Bool.false_eq_true, if_false] at this
      obtain ⟨u, e, hh⟩ := this
      exact ⟨u, e, hk _ _ hh⟩
  · intro vs w' hC' hall2
    exact h4 vs w' hC' (fun y hy => by cases hy) (fun y hy => hall2 y.1 ⟨y.2, hy⟩ ⟨y.2, hy⟩)
  · have := hdown i hi
    rw [hl] at this
    simp only [Bool.not_true, Bool.false_or, List.all_eq_true] at this
    have := this e (by simpa using he)
    simpa [hb] using this

/-- What was there stays. -/
def Grows (w w' : World) : Prop := Below w.heap.size w w'
theorem Grows.refl (w : World) : Grows w w := Below.refl _ _
theorem Grows.trans {a b c : World} (h : Grows a b) (k : Grows b c) : Grows a c := Below.trans h (k.mono h.size)
theorem Grows.alloc (w : World) (o : Obj) : Grows w (w.alloc o) := (Below.refl _ w).alloc (Nat.le_refl _) o
theorem Grows.of {w w' : World} (h : Below w.heap.size w w') : Grows w w' := h
theorem Grows.drewN (w : World) (n : Nat) : Grows w (w.drewN n) := ⟨rfl, rfl, rfl, Nat.le_refl _, fun _ _ => rfl⟩
theorem Grows.drew (w : World) : Grows w w.drew := ⟨rfl, rfl, rfl, Nat.le_refl _, fun _ _ => rfl⟩

section
variable {C : World → Prop} {Q : Exit → Act → World → Prop} {tl : List Oper} {a : Act} {all rest : List (Nat × Option Tmp)} {known : Known} {i : Nat} {d : Option Tmp} {o : Oper} {w : World} {K : Value → World → Prop}

theorem getD_of {o : Oper} (h : ops[i]? = some o) : ops.getD i default = o := by
  simp [Array.getD_eq_getD_getElem?, h]

theorem step_val (v : Value) (w2 : World) (hw : Region.wanted o (yielded ops a.tmps) = true) (hr : (execOp a.eval o).run P w = .ok (.value v) w2) (hd : o.dst = d) (hk : K v w2) : wpList P ops (stepQ Q a d K) [o] a w := by
  subst hd
  unfold wpList
  rw [if_pos hw]
  refine .inl ?_
  unfold Oper.wp
  rw [hr]
  exact ⟨v, rfl, hk⟩
theorem step_skip (hw : Region.wanted o (yielded ops a.tmps) = false) (hd : o.dst = d) (hk : K undef w) : wpList P ops (stepQ Q a d K) [o] a w := by
  subst hd
  unfold wpList
  rw [if_neg (by simp [hw])]
  exact ⟨undef, rfl, hk⟩
theorem step_call (f : FuncId) (args : Array Value) (hw : Region.wanted o (yielded ops a.tmps) = true) (hr : (execOp a.eval o).run P w = .ok (.enter f args) w) (hd : o.dst = d)
    (hc : Calls P f args w fun e w' => ∃ v, e = .returned v ∧ K v w') : wpList P ops (stepQ Q a d K) [o] a w := by
  subst hd
  unfold wpList
  rw [if_pos hw]
  refine .inl ?_
  unfold Oper.wp
  rw [hr]
  refine hc.mono ?_
  rintro e w' ⟨v, rfl, hk⟩
  exact ⟨v, rfl, hk⟩

/-- The walk's end. -/
theorem rel_nil (h : ∀ vs w', C w' → Knows vs w' known → wpList P ops Q tl (putAll vs all a) w') : relWalk P md ops Grows C Q tl a all [] known := h
/-- An operation that makes memory. -/
theorem rel_val (hi : ops[i]? = some o) (T : Value → World → Prop) (hT : ∀ v w w', T v w → Grows w w' → T v w') (hd : o.dst = d)
    (h : ∀ vs w', C w' → Needs md o vs w' known → ∃ v w2, Region.wanted o (yielded ops (putAll vs all a).tmps) = true ∧ (execOp (putAll vs all a).eval o).run P w' = .ok (.value v) w2 ∧ T v w2 ∧ Grows w' w2)
    (hrest : relWalk P md ops Grows C Q tl a all rest ((i, T) :: known)) : relWalk P md ops Grows C Q tl a all ((i, d) :: rest) known := by
  refine ⟨T, hT, fun vs w' hC hn => ?_, hrest⟩
  rw [getD_of hi] at hn ⊢
  obtain ⟨v, w2, h1, h2, h3, h4⟩ := h vs w' hC hn
  exact step_val v w2 h1 h2 hd ⟨h3, h4⟩
/-- An operation of one value. -/
theorem rel_const (hi : ops[i]? = some o) (v : Value) (hd : o.dst = d)
    (h : ∀ vs w', C w' → Needs md o vs w' known → Region.wanted o (yielded ops (putAll vs all a).tmps) = true ∧ (execOp (putAll vs all a).eval o).run P w' = .ok (.value v) w')
    (hrest : relWalk P md ops Grows C Q tl a all rest ((i, fun u _ => u = v) :: known)) : relWalk P md ops Grows C Q tl a all ((i, d) :: rest) known :=
  rel_val hi _ (fun _ _ _ h _ => h) hd (fun vs w' hC hn => ⟨v, w', (h vs w' hC hn).1, (h vs w' hC hn).2, rfl, Grows.refl _⟩) hrest
/-- A call. -/
theorem rel_call (hi : ops[i]? = some o) (T : Value → World → Prop) (hT : ∀ v w w', T v w → Grows w w' → T v w') (hd : o.dst = d)
    (h : ∀ vs w', C w' → Needs md o vs w' known → ∃ f args, Region.wanted o (yielded ops (putAll vs all a).tmps) = true ∧ (execOp (putAll vs all a).eval o).run P w' = .ok (.enter f args) w' ∧ Calls P f args w' fun e w2 => ∃ v, e = .returned v ∧ T v w2 ∧ Grows w' w2)
    (hrest : relWalk P md ops Grows C Q tl a all rest ((i, T) :: known)) : relWalk P md ops Grows C Q tl a all ((i, d) :: rest) known := by
  refine ⟨T, hT, fun vs w' hC hn => ?_, hrest⟩
  rw [getD_of hi] at hn ⊢
  obtain ⟨f, args, h1, h2, h3⟩ := h vs w' hC hn
  exact step_call f args h1 h2 hd h3
/-- A call of one value. -/
theorem rel_call_const (hi : ops[i]? = some o) (v : Value) (f : FuncId) (hd : o.dst = d)
    (h : ∀ vs w', C w' → Needs md o vs w' known → ∃ args, Region.wanted o (yielded ops (putAll vs all a).tmps) = true ∧ (execOp (putAll vs all a).eval o).run P w' = .ok (.enter f args) w' ∧ Calls P f args w' fun e w2 => e = .returned v ∧ Below w'.heap.size w' w2)
    (hrest : relWalk P md ops Grows C Q tl a all rest ((i, fun u _ => u = v) :: known)) : relWalk P md ops Grows C Q tl a all ((i, d) :: rest) known :=
  rel_call hi _ (fun _ _ _ h _ => h) hd (fun vs w' hC hn => by
    obtain ⟨args, h1, h2, h3⟩ := h vs w' hC hn
    exact ⟨f, args, h1, h2, h3.mono fun e w2 ⟨he, hb⟩ => ⟨v, he, rfl, hb⟩⟩) hrest
/-- An operation that is not wanted. -/
theorem rel_skip (hi : ops[i]? = some o) (hd : o.dst = d)
    (h : ∀ vs w', C w' → Needs md o vs w' known → Region.wanted o (yielded ops (putAll vs all a).tmps) = false)
    (hrest : relWalk P md ops Grows C Q tl a all rest ((i, fun u _ => u = undef) :: known)) : relWalk P md ops Grows C Q tl a all ((i, d) :: rest) known := by
  refine ⟨fun u _ => u = undef, fun _ _ _ h _ => h, fun vs w' hC hn => ?_, hrest⟩
  rw [getD_of hi] at hn ⊢
  exact step_skip (h vs w' hC hn) hd ⟨rfl, Grows.refl _⟩
end

/-- A drawn region, whole. -/
theorem wp_region_rel {id : Nat} {Q : Exit → Act → World → Prop} {a : Act} {w : World} {l : List Oper} (all : List (Nat × Option Tmp)) (tail : List Nat) (tl : List Oper) (hm : P.follows .mixedOrders = true) (htl : tail.map (l.toArray[·]?) = tl.map some) (hB : relB .any l.toArray (Array.replicate l.toArray.size false) all tail = true) (hf : all.length + tail.length = l.toArray.size)
    (h : relWalk P .any l.toArray Grows (Grows w) Q tl a all all []) : (Code.region id l.toArray true).wp P Q a w :=
  wp_region_any hm (wpAny_rel all tail tl Grows (Grows w) htl hB hf (fun _ _ h1 h2 => h1.trans h2) (Grows.drew w) h)
end
end Go.Proofs.YtgejndannlfhkaaDoor
