/- A drawn region in which a new row may be marked: the relational walk where cells stay and marks may turn. No condition. -/
import Derived.Test.YtgejndannlfhkaaDoorRel
import Derived.Test.YtgejndannlfhkaaDoorScribe
import Derived.Lib.SlBytesConst
namespace Go.Proofs.YtgejndannlfhkaaDoor
open Go Go.RowKit

/-- What was there below B stays; what was made since keeps its cells (its marks may turn). -/
structure GrowsC (B : Nat) (w w' : World) : Prop where
  below : Below B w w'
  rows : ∀ (k : Nat) (cs : Array Value) (t : TypeId) (fr : Nat × Nat), w.heap[k]? = some (.cells cs t fr) → ∃ fr', w'.heap[k]? = some (.cells cs t fr')

theorem GrowsC.refl (B : Nat) (w : World) : GrowsC B w w := ⟨Below.refl _ _, fun _ _ _ fr h => ⟨fr, h⟩⟩
theorem GrowsC.trans {B : Nat} {a b c : World} (h : GrowsC B a b) (k : GrowsC B b c) : GrowsC B a c :=
  ⟨h.below.trans k.below, fun i _ _ fr hi => by obtain ⟨fr', h'⟩ := h.rows i _ _ fr hi; exact k.rows i _ _ fr' h'⟩
theorem GrowsC.of {B : Nat} {w w' : World} (h : Below w.heap.size w w') (hB : B ≤ w.heap.size) : GrowsC B w w' :=
  ⟨h.mono hB, fun k _ _ fr hk => ⟨fr, (h.block k (Array.getElem?_eq_some_iff.1 hk).1).trans hk⟩⟩
theorem GrowsC.alloc {B : Nat} (w : World) (o : Obj) (hB : B ≤ w.heap.size) : GrowsC B w (w.alloc o) := GrowsC.of (Grows.alloc w o) hB
theorem GrowsC.drew {B : Nat} (w : World) : GrowsC B w w.drew := ⟨⟨rfl, rfl, rfl, Nat.le_refl _, fun _ _ => rfl⟩, fun _ _ _ fr h => ⟨fr, h⟩⟩

/-- Block g holds just these cells, whatever its mark. -/
def RowM (w : World) (g : Nat) (t : TypeId) (cs : Array Value) : Prop := ∃ fr, w.heap[g]? = some (.cells cs t fr)
section
variable {B : Nat} {w w' : World} {g : Nat} {t : TypeId} {cs : Array Value}
theorem RowM.lt (h : RowM w g t cs) : g < w.heap.size := by obtain ⟨fr, h⟩ := h; exact (Array.getElem?_eq_some_iff.1 h).1
theorem RowM.cell (h : RowM w g t cs) (i : Nat) : w.cell? ⟨g, i, none⟩ = cs[i]? := by obtain ⟨fr, h⟩ := h; exact cell_of_row w g i cs t fr h
theorem RowM.grows (h : RowM w g t cs) (hg : GrowsC B w w') : RowM w' g t cs := by obtain ⟨fr, h⟩ := h; exact hg.rows _ _ _ _ h
theorem RowM.new (w : World) (t : TypeId) (cs : Array Value) : RowM (w.alloc (.cells cs t)) w.heap.size t cs := ⟨_, Row.new w t cs⟩
theorem Row.marked (h : Row w g t cs) : RowM w g t cs := ⟨_, h⟩
theorem RowM.bytes {l : List UInt8} {n : Nat} (h : RowM w g t (u8s l).toArray) (hn : l.length = n) : BytesIn w w.heap.size (some ⟨g, 0, none⟩) n l := by
  subst hn
  exact ⟨rfl, fun _ => ⟨g, 0, rfl, h.lt, fun i hi => by rw [Nat.zero_add, h.cell i, List.getElem?_toArray, u8s_get l i hi]⟩⟩
end

/-- A row of a constant's bytes is marked. -/
theorem run_mark {w : World} {g : Nat} {cs : Array Value} (h : RowM w g 5 cs) (n c : Nat) :
    (convert 22 22 (.slice (some ⟨g, 0, none⟩) n c)).run Tryd.prog w = .ok (.slice (some ⟨g, 0, none⟩) n c) (w.freeze ⟨g, cs.size, none⟩ 1) := by
  obtain ⟨fr, h⟩ := h
  have hsh : w.shape? g = some (5, cs.size) := by unfold World.shape?; rw [h]
  simp [convert, run_underlying Tryd.underlying22, run_underlying Tryd.underlying5, markStringish, hsh]
theorem grows_mark {B : Nat} {w : World} {g n : Nat} (hB : B ≤ g) : GrowsC B w (w.freeze ⟨g, n, none⟩ 1) := by
  have hh : ∀ k, k ≠ g → (w.freeze ⟨g, n, none⟩ 1).heap[k]? = w.heap[k]? := fun k hk => by
    unfold World.freeze
    rw [if_neg (by decide)]
    simp only [Array.getElem?_modify]
    rw [if_neg (by simpa using Ne.symm hk)]
  refine ⟨⟨?_, ?_, ?_, ?_, fun k hk => hh k (by omega)⟩, fun k cs t fr hk => ?_⟩
  · unfold World.freeze; rw [if_neg (by decide)]
  · unfold World.freeze; rw [if_neg (by decide)]
  · unfold World.freeze; rw [if_neg (by decide)]
  · unfold World.freeze; rw [if_neg (by decide)]; simp
  · by_cases e : k = g
    · subst e
      unfold World.freeze
      rw [if_neg (by decide)]
      simp only [Array.getElem?_modify, if_true, hk, Option.map_some]
      exact ⟨_, rfl⟩
    · exact ⟨fr, (hh k e).trans hk⟩

section
variable {P : Program} {md : Region.Mode} {ops : Array Oper} {E : World → World → Prop} {C : World → Prop} {Q : Exit → Act → World → Prop} {tl : List Oper} {a : Act} {all rest : List (Nat × Option Tmp)} {known : Known} {i : Nat} {d : Option Tmp} {o : Oper}
/-- The walk's end. -/
theorem relE_nil (h : ∀ vs w', C w' → Knows vs w' known → wpList P ops Q tl (putAll vs all a) w') : relWalk P md ops E C Q tl a all [] known := h
/-- An operation that makes memory. -/
theorem relE_val (hi : ops[i]? = some o) (T : Value → World → Prop) (hT : ∀ v w w', T v w → E w w' → T v w') (hd : o.dst = d)
    (h : ∀ vs w', C w' → Needs md o vs w' known → ∃ v w2, Region.wanted o (yielded ops (putAll vs all a).tmps) = true ∧ (execOp (putAll vs all a).eval o).run P w' = .ok (.value v) w2 ∧ T v w2 ∧ E w' w2)
    (hrest : relWalk P md ops E C Q tl a all rest ((i, T) :: known)) : relWalk P md ops E C Q tl a all ((i, d) :: rest) known := by
  refine ⟨T, hT, fun vs w' hC hn => ?_, hrest⟩
  rw [getD_of hi] at hn ⊢
  obtain ⟨v, w2, h1, h2, h3, h4⟩ := h vs w' hC hn
  exact step_val v w2 h1 h2 hd ⟨h3, h4⟩
/-- An operation of one value. -/
theorem relE_const (hE : ∀ w, E w w) (hi : ops[i]? = some o) (v : Value) (hd : o.dst = d)
    (h : ∀ vs w', C w' → Needs md o vs w' known → Region.wanted o (yielded ops (putAll vs all a).tmps) = true ∧ (execOp (putAll vs all a).eval o).run P w' = .ok (.value v) w')
    (hrest : relWalk P md ops E C Q tl a all rest ((i, fun u _ => u = v) :: known)) : relWalk P md ops E C Q tl a all ((i, d) :: rest) known :=
  relE_val hi _ (fun _ _ _ h _ => h) hd (fun vs w' hC hn => ⟨v, w', (h vs w' hC hn).1, (h vs w' hC hn).2, rfl, hE _⟩) hrest
/-- A call. -/
theorem relE_call (hi : ops[i]? = some o) (T : Value → World → Prop) (hT : ∀ v w w', T v w → E w w' → T v w') (hd : o.dst = d)
    (h : ∀ vs w', C w' → Needs md o vs w' known → ∃ f args, Region.wanted o (yielded ops (putAll vs all a).tmps) = true ∧ (execOp (putAll vs all a).eval o).run P w' = .ok (.enter f args) w' ∧ Calls P f args w' fun e w2 => ∃ v, e = .returned v ∧ T v w2 ∧ E w' w2)
    (hrest : relWalk P md ops E C Q tl a all rest ((i, T) :: known)) : relWalk P md ops E C Q tl a all ((i, d) :: rest) known := by
  refine ⟨T, hT, fun vs w' hC hn => ?_, hrest⟩
  rw [getD_of hi] at hn ⊢
  obtain ⟨f, args, h1, h2, h3⟩ := h vs w' hC hn
  exact step_call f args h1 h2 hd h3
/-- A call of one value. -/
theorem relE_call_const (hi : ops[i]? = some o) (v : Value) (f : FuncId) (hd : o.dst = d)
    (h : ∀ vs w', C w' → Needs md o vs w' known → ∃ args, Region.wanted o (yielded ops (putAll vs all a).tmps) = true ∧ (execOp (putAll vs all a).eval o).run P w' = .ok (.enter f args) w' ∧ Calls P f args w' fun e w2 => e = .returned v ∧ E w' w2)
    (hrest : relWalk P md ops E C Q tl a all rest ((i, fun u _ => u = v) :: known)) : relWalk P md ops E C Q tl a all ((i, d) :: rest) known :=
  relE_call hi _ (fun _ _ _ h _ => h) hd (fun vs w' hC hn => by
    obtain ⟨args, h1, h2, h3⟩ := h vs w' hC hn
    exact ⟨f, args, h1, h2, h3.mono fun e w2 ⟨he, hb⟩ => ⟨v, he, rfl, hb⟩⟩) hrest
/-- An operation that is not wanted. -/
theorem relE_skip (hE : ∀ w, E w w) (hi : ops[i]? = some o) (hd : o.dst = d)
    (h : ∀ vs w', C w' → Needs md o vs w' known → Region.wanted o (yielded ops (putAll vs all a).tmps) = false)
    (hrest : relWalk P md ops E C Q tl a all rest ((i, fun u _ => u = undef) :: known)) : relWalk P md ops E C Q tl a all ((i, d) :: rest) known := by
  refine ⟨fun u _ => u = undef, fun _ _ _ h _ => h, fun vs w' hC hn => ?_, hrest⟩
  rw [getD_of hi] at hn ⊢
  exact step_skip (h vs w' hC hn) hd ⟨rfl, hE _⟩

/-- A drawn region, whole. -/
theorem wp_region_relE {id : Nat} {Q : Exit → Act → World → Prop} {a : Act} {w : World} {l : List Oper} (B : Nat) (all : List (Nat × Option Tmp)) (hm : P.follows .mixedOrders = true) (hB : relB .any l.toArray (Array.replicate l.toArray.size false) all [] = true) (hf : all.length = l.toArray.size)
    (h : relWalk P .any l.toArray (GrowsC B) (GrowsC B w) Q [] a all all []) : (Code.region id l.toArray true).wp P Q a w :=
  wp_region_any hm (wpAny_rel all [] [] (GrowsC B) (GrowsC B w) rfl hB (by simpa using hf) (fun _ _ h1 h2 => h1.trans h2) (GrowsC.drew w) h)
end
end Go.Proofs.YtgejndannlfhkaaDoor
