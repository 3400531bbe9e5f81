/- Words for slices of bytes: what a slice reads as, a row of bytes of the call's own, appends onto it. No condition. -/
import Derived.Test.YtgejndannlfhkaaDoorMem
import Derived.Test.YtgejndannlfhkaaDoorProg
import Derived.Maps.AppendAt
import Derived.Lib.AppendZerosOnto
import Derived.KernelRfl
namespace Go.Proofs.YtgejndannlfhkaaDoor
open Go Go.RowKit

def u8s (l : List UInt8) : List Value := l.map fun c => Value.int .u8 (n8 c)
theorem u8s_length (l : List UInt8) : (u8s l).length = l.length := by simp [u8s]
theorem u8s_get (l : List UInt8) (i : Nat) (h : i < l.length) : (u8s l)[i]? = some (.int .u8 (n8 (l.getD i 0))) := by simp [u8s, h, List.getD]
theorem u8s_append (l k : List UInt8) : u8s (l ++ k) = u8s l ++ u8s k := by simp [u8s]
theorem u8s_one (l : List UInt8) : ∀ u ∈ u8s l, u.oneCell' = true := by simp [u8s, Value.oneCell']
theorem u8s_getElem? (l : List UInt8) (i : Nat) : (u8s l)[i]? = l[i]?.map fun c => Value.int .u8 (n8 c) := by simp [u8s]

theorem Row.setByte {w : World} {g : Nat} {t : TypeId} {l : List UInt8} (h : Row w g t (u8s l).toArray) (i : Nat) (x : UInt8) : Row (w.setCell ⟨g, i, none⟩ (.int .u8 (n8 x))) g t (u8s (l.set i x)).toArray :=
  (h.set i _).of_eq (by simp [u8s, List.map_set])
theorem u8s_all (l : List UInt8) : (u8s l).toArray.all (·.oneCell') = true := by simp [u8s, Value.oneCell']

/-- The slice at A, of n elements, reads as the bytes l, and lies below block B. -/
def BytesIn (w : World) (B : Nat) (A : Option Addr) (n : Nat) (l : List UInt8) : Prop :=
  l.length = n ∧ (0 < n → ∃ g o, A = some ⟨g, o, none⟩ ∧ g < B ∧ ∀ i, i < n → w.cell? ⟨g, o + i, none⟩ = some (.int .u8 (n8 (l.getD i 0))))

section
variable {w w' : World} {B B' : Nat} {A : Option Addr} {n : Nat} {l : List UInt8}
theorem BytesIn.nil (w : World) (B : Nat) (A : Option Addr) : BytesIn w B A 0 [] := ⟨rfl, fun h => absurd h (by omega)⟩
theorem BytesIn.below (h : BytesIn w B A n l) (hb : Below B w w') : BytesIn w' B A n l :=
  ⟨h.1, fun hn => by
    obtain ⟨g, o, e, hg, hc⟩ := h.2 hn
    exact ⟨g, o, e, hg, fun i hi => (hb.cell (p := ⟨g, o + i, none⟩) hg).trans (hc i hi)⟩⟩
theorem BytesIn.more (h : BytesIn w B A n l) (hB : B ≤ B') : BytesIn w B' A n l :=
  ⟨h.1, fun hn => by
    obtain ⟨g, o, e, hg, hc⟩ := h.2 hn
    exact ⟨g, o, e, by omega, hc⟩⟩
theorem BytesIn.drewN (h : BytesIn w B A n l) (k : Nat) : BytesIn (w.drewN k) B A n l := h
theorem BytesIn.alloc (h : BytesIn w B A n l) (hB : B ≤ w.heap.size) (o : Obj) : BytesIn (w.alloc o) B A n l := h.below ((Below.refl B w).alloc hB o)
theorem BytesIn.take (h : BytesIn w B A n l) (k : Nat) (hk : k ≤ n) : BytesIn w B A k (l.take k) :=
  ⟨by rw [List.length_take, h.1]; omega, fun hn => by
    obtain ⟨g, o, e, hg, hc⟩ := h.2 (by omega)
    exact ⟨g, o, e, hg, fun i hi => by rw [hc i (by omega)]; simp [List.getD, hi]⟩⟩
theorem BytesIn.cells (h : BytesIn w B A n l) (hn : 0 < n) : ∃ ad : Addr, A = some ad ∧ ad.block < B ∧ ∀ j u, (u8s l)[j]? = some u → w.cell? (ad.add j) = some u := by
  obtain ⟨g, o, e, hg, hc⟩ := h.2 hn
  refine ⟨⟨g, o, none⟩, e, hg, fun j u hu => ?_⟩
  have hj : j < l.length := by have := (List.getElem?_eq_some_iff.1 hu).1; rwa [u8s_length] at this
  rw [Addr.add_lit, hc j (by rw [← h.1]; exact hj), ← hu, u8s_get l j hj]
end

/-- The value v is a slice of the call's own, of the bytes l, in a block from 'base' on. -/
def OwnB (w : World) (base : Nat) (v : Value) (l : List UInt8) : Prop := w.ownsRow base 5 1 v l.length (u8s l)

theorem info_u8 : (Tryd.prog.info? 5).map (fun i => (i.zero, i.size, i.bytes)) = some (some (.int .u8 0), 1, 1) := by kernel_rfl

section
variable {w w' : World} {base : Nat} {v : Value} {l : List UInt8}
theorem OwnB.nil (w : World) (base : Nat) : OwnB w base (.slice none 0 0) [] := World.ownsRow_nil w base _ 1
theorem OwnB.form (h : OwnB w base v l) : ∃ A c, v = .slice A l.length c ∧ l.length ≤ c ∧ c ≤ maxLen := by
  rcases h.2 with ⟨rfl, hn⟩ | ⟨g, cap, cur, rfl, _, _, h1, h2, _⟩
  · exact ⟨none, 0, by rw [hn], by omega, by unfold maxLen; omega⟩
  · exact ⟨_, cap, rfl, h1, h2⟩
theorem OwnB.bytes {A : Option Addr} {n c : Nat} (h : OwnB w base (.slice A n c) l) : BytesIn w w.heap.size A n l := by
  have hn : n = l.length := by
    obtain ⟨A', c', e, _⟩ := h.form
    injection e
  subst hn
  refine ⟨rfl, fun h0 => ?_⟩
  rcases h.2 with ⟨e, hn⟩ | ⟨g, cap, cur, e, _, hg, _⟩
  · omega
  · injection e with e1 e2 e3
    subst e1
    refine ⟨g, 0, rfl, (Array.getElem?_eq_some_iff.1 hg).1, fun i hi => ?_⟩
    have := World.ownsRow.cells h (g := g) rfl i _ (u8s_get l i hi)
    rwa [Addr.add_lit] at this
theorem OwnB.kept {row : Option Nat} (h : OwnB w base v l) (hg : w.grownBy w' row) (hne : v.ownBlock = none ∨ v.ownBlock ≠ row) : OwnB w' base v l := World.ownsRow.kept h hg hne
theorem OwnB.alloc (h : OwnB w base v l) (o : Obj) : OwnB (w.alloc o) base v l := World.ownsRow.alloc h o
theorem OwnB.below (h : OwnB w base v l) (hb : Below w.heap.size w w') : OwnB w' base v l :=
  h.kept (row := none) ⟨hb.os, hb.tape, hb.output, hb.size, fun k hk _ => hb.block k hk⟩ (by cases v.ownBlock <;> simp)
theorem OwnB.drewN (h : OwnB w base v l) (n : Nat) : OwnB (w.drewN n) base v l := h
theorem OwnB.lt (h : OwnB w base v l) : ∀ k, v.ownBlock = some k → base ≤ k ∧ k < w.heap.size := World.ownsRow.lt h
theorem OwnB.lower {base' : Nat} (h : OwnB w base v l) (hb : base' ≤ base) : OwnB w base' v l := by
  refine ⟨h.1, ?_⟩
  rcases h.2 with h | ⟨g, cap, cur, e, h1, r⟩
  · exact .inl h
  · exact .inr ⟨g, cap, cur, e, by omega, r⟩
end

theorem OwnB.cut {w : World} {base : Nat} {A : Option Addr} {n c : Nat} {l : List UInt8} (h : OwnB w base (.slice A n c) l) (k : Nat) (hk : k ≤ n) : OwnB w base (.slice A k c) (l.take k) := by
  rcases h.2 with ⟨e, h0⟩ | ⟨g, cap, cur, e, hb, hg, h1, h2, h3, h4⟩
  · injection e with e1 e2 e3
    subst e1 e2 e3
    obtain rfl : k = 0 := by omega
    exact OwnB.nil w base
  · injection e with e1 e2 e3
    subst e1 e2 e3
    refine ⟨by simp [u8s_length], .inr ⟨g, c, cur, by rw [List.length_take]; congr 1; omega, hb, hg, by simp; omega, h2, h3, ?_⟩⟩
    rw [List.length_take, Nat.mul_one, Nat.min_eq_left hk]
    have : u8s (l.take k) = (u8s l).take k := by simp [u8s, List.map_take]
    rw [this, ← h4, Nat.mul_one, List.take_take, Nat.min_eq_left hk]

/-- One byte in a new block. -/
theorem bytesIn_one (W : World) (x : UInt8) : BytesIn (W.alloc (.cells #[.int .u8 (n8 x)] 5)) (W.heap.size + 1) (some ⟨W.heap.size, 0, none⟩) 1 [x] :=
  ⟨rfl, fun _ => ⟨W.heap.size, 0, rfl, by omega, fun i hi => by
    obtain rfl : i = 0 := by omega
    exact (Row.new W 5 #[.int .u8 (n8 x)]).cell 0⟩⟩

/-- 'append' of bytes onto a row of the call's own: its run. -/
theorem run_append_bytes {w : World} {base : Nat} {v : Value} {l : List UInt8} (ty : TypeId) (hown : OwnB w base v l) {B : Nat} {A : Option Addr} {m c : Nat} {news : List UInt8} (hr : BytesIn w B A m news)
    (hlen : l.length + m ≤ 140737488355328) (hbase : base ≤ w.heap.size) :
    ∃ A' c' w', (Builtin.append_ #[22, 22] ty #[v, .slice A m c]).run Tryd.prog w = .ok (.slice A' (l.length + m) c') w' ∧ OwnB w' base (.slice A' (l.length + m) c') (l ++ news) ∧ w.grownBy w' v.ownBlock ∧
      ((Value.slice A' (l.length + m) c').ownBlock = v.ownBlock ∨ (Value.slice A' (l.length + m) c').ownBlock = some w.heap.size) := by
  obtain ⟨i0, hi, hz0, hz1, hz2⟩ := info_parts info_u8
  have fin : ∀ v' w', (Builtin.append_ #[22, 22] ty #[v, .slice A m c]).run Tryd.prog w = .ok v' w' → w'.ownsRow base 5 1 v' (l.length + m) (u8s l ++ u8s news) → w.grownBy w' v.ownBlock →
      (v'.ownBlock = v.ownBlock ∨ v'.ownBlock = some w.heap.size) →
      ∃ A' c' w', (Builtin.append_ #[22, 22] ty #[v, .slice A m c]).run Tryd.prog w = .ok (.slice A' (l.length + m) c') w' ∧ OwnB w' base (.slice A' (l.length + m) c') (l ++ news) ∧ w.grownBy w' v.ownBlock ∧
      ((Value.slice A' (l.length + m) c').ownBlock = v.ownBlock ∨ (Value.slice A' (l.length + m) c').ownBlock = some w.heap.size) := by
    intro v' w' h1 h2 h3 h4
    have h5 : OwnB w' base v' (l ++ news) := by
      unfold OwnB
      rw [List.length_append, hr.1, u8s_append]
      exact h2
    obtain ⟨A', c', e, _⟩ := h5.form
    rw [List.length_append, hr.1] at e
    subst e
    exact ⟨A', c', w', h1, h5, h3, h4⟩
  by_cases hm : 0 < m
  · obtain ⟨ad, rfl, _, hc⟩ := hr.cells hm
    obtain ⟨v', w', hrun, h2, h3, _, h5⟩ := run_append_own_at (P := Tryd.prog) w base 22 ty 5 i0 (.int .u8 0) 1 1 Tryd.underlying22 hi hz0 hz1 hz2 rfl (by decide) v l.length (u8s l) hown ad m c (u8s news)
      (by rw [u8s_length, hr.1, Nat.mul_one]) hc (u8s_one _) (by unfold maxLen; omega) (by omega) hbase
    exact fin v' w' hrun h2 h3 h5
  · obtain rfl : m = 0 := by omega
    obtain rfl : news = [] := List.eq_nil_of_length_eq_zero hr.1
    have hrun : (Builtin.append_ #[22, 22] ty #[v, .slice A 0 c]).run Tryd.prog w = .ok v w := by
      have hl0 : ∀ ad, (loadCells ad 0).run Tryd.prog w = .ok #[] w := fun ad => run_loadCells_list w ad [] (by simp)
      rcases hown.2 with ⟨rfl, h0⟩ | ⟨g, cap, cur, rfl, _, _, hnc, _⟩
      · cases A <;> simp [Builtin.append_, run_underlying Tryd.underlying22, sizeOf, typeInfo, hi, Builtin.lenOf, Builtin.firstCells, hl0]
      · cases A <;> simp [Builtin.append_, run_underlying Tryd.underlying22, sizeOf, typeInfo, hi, Builtin.lenOf, Builtin.firstCells, hnc, storeCells, hl0]
    exact fin v w hrun (by rw [show u8s l ++ u8s [] = u8s l from List.append_nil _]; exact hown) (World.grownBy.refl w _) (.inl rfl)

theorem zeroCells_u8 (m : Nat) : Builtin.zeroCells (Value.int .u8 0).cells m = (u8s (List.replicate m 0)).toArray := by
  apply Array.ext
  · simp [Builtin.zeroCells, u8s, Value.cells]
  · intro i h1 h2
    simp [Builtin.zeroCells, u8s, Value.cells, Nat.mod_one]
    rfl

/-- 'append' of zeros, as many as a number says, onto a row of the call's own: its run. -/
theorem run_append_zeros {w : World} {base : Nat} {v : Value} {l : List UInt8} (ty : TypeId) (hown : OwnB w base v l) (m : Nat)
    (hlen : l.length + m ≤ 70368744177664) (hbase : base ≤ w.heap.size) :
    ∃ A' c' w', (Builtin.append_ #[22, 3] ty #[v, .int .i64 (m : Int)]).run Tryd.prog w = .ok (.slice A' (l.length + m) c') w' ∧ OwnB w' base (.slice A' (l.length + m) c') (l ++ List.replicate m 0) ∧ w.grownBy w' v.ownBlock ∧
      ((Value.slice A' (l.length + m) c').ownBlock = v.ownBlock ∨ (Value.slice A' (l.length + m) c').ownBlock = some w.heap.size) ∧ l.length + m ≤ c' := by
  obtain ⟨i0, hi, hz0, hz1, hz2⟩ := info_parts info_u8
  have hul := Tryd.underlying22
  have hui := Tryd.underlying3
  have hwr : IntKind.i64.wrap (m : Int) = m := by rw [IntKind.wrap_i64]; omega
  obtain ⟨A, cp, rfl, hc1, hc2⟩ := hown.form
  by_cases hm : 0 < m
  case neg =>
    obtain rfl : m = 0 := by omega
    have hi64 : IntKind.i64.wrap 0 = 0 := by decide
    refine ⟨A, cp, w, ?_, by simpa using hown, World.grownBy.refl w _, .inl rfl, by omega⟩
    cases A <;> simp [Builtin.append_, run_underlying hul, run_underlying hui, sizeOf, typeInfo, zeroValue, hi, hz0, hz2, asInt, asIntOf, hi64, hc1, storeCells]
  by_cases hroom : l.length + m ≤ cp
  · rcases hown.2 with ⟨e, h0⟩ | ⟨g, cap, cur, e, hbg, hg, hn1, hn2, hn3, htk⟩
    · injection e with e1 e2 e3; omega
    · injection e with e1 e2 e3
      subst e1; subst e3
      have hst := run_storeCells_at Tryd.prog g l.length 5 (u8s (List.replicate m 0)) 0 cur w hg (by simp [u8s_length]; omega) (u8s_one _)
      have hneg : ¬ ((m : Int) < 0) := by omega
      have hbig : ¬ (281474976710656 < (m : Int)) := by omega
      have hm0 : ¬ m = 0 := by omega
      refine ⟨some ⟨g, 0, none⟩, cp, w.setRow g (cur.toList.take (l.length + 0) ++ u8s (List.replicate m 0) ++ cur.toList.drop (l.length + 0 + (u8s (List.replicate m 0)).length)).toArray, ?_, ?_, ?_, .inl rfl, hroom⟩
      · simp only [Nat.add_zero] at hst
        simp [Builtin.append_, run_underlying hul, run_underlying hui, sizeOf, typeInfo, zeroValue, hi, hz0, hz1, hz2, asInt, asIntOf, hwr, hneg, hbig, hm0, hroom, zeroCells_u8, Addr.add_lit, hst]
      · refine ⟨by rw [u8s_length, List.length_append]; simp, .inr ⟨g, cp, _, by simp, hbg, setRow_heap w g _ _ _ _ hg, by simp; omega, hc2, ?_, ?_⟩⟩
        · simp [u8s_length, hn3]; omega
        · simp only [Nat.add_zero, List.length_append, List.length_replicate, Nat.mul_one] at htk ⊢
          rw [htk, u8s_append, List.take_append_of_le_length (by simp [u8s_length])]
          exact List.take_of_length_le (by simp [u8s_length])
      · exact ⟨rfl, rfl, rfl, by simp, fun k _ hne => setRow_other w g k _ (fun h => hne (by rw [h]; rfl))⟩
  · have hold : (Builtin.firstCells i0.size l.length (.slice A l.length cp)).run Tryd.prog w.drew = .ok (u8s l).toArray w.drew := by
      by_cases h0 : 0 < l.length
      · obtain ⟨ad, rfl, _, hc⟩ := hown.bytes.cells h0
        have := run_loadCells_list (P := Tryd.prog) w.drew ad (u8s l) hc
        simpa [Builtin.firstCells, hz1, u8s_length] using this
      · obtain rfl : l = [] := List.eq_nil_of_length_eq_zero (by omega)
        have hl0 : ∀ ad, (loadCells ad 0).run Tryd.prog w.drew = .ok #[] w.drew := fun ad => run_loadCells_list w.drew ad [] (by simp)
        cases A <;> simp [Builtin.firstCells, hl0, u8s]
    have hcapn : Builtin.nextslicecap (l.length + m) cp * i0.bytes ≤ 281474976710656 := by
      rw [hz2, Nat.mul_one]
      unfold Builtin.nextslicecap
      split
      · omega
      · split
        · omega
        · have gb : ∀ (r c : Nat), c ≤ 140737488355328 → Builtin.growBy (l.length + m) r c ≤ 281474976710656 := by
            intro r
            induction r with
            | zero => intro c hc; simp [Builtin.growBy]; omega
            | succ r ih =>
              intro c hc
              simp only [Builtin.growBy]
              split
              · omega
              · exact ih _ (by omega)
          exact gb 4 cp (by omega)
    have hrun := Lib.run_append_grow_zeros (P := Tryd.prog) w 22 3 ty 5 i0 (.int .u8 0) .i64 .i64 hul hui hi hz0 A l.length cp (u8s l) hold m hm (by omega) (by omega) (by omega) (by rw [hz2]; omega) hcapn
    have hge := grownCap_ge w (l.length + m) cp 5
    refine ⟨_, _, _, hrun, ?_, ⟨rfl, rfl, rfl, by simp, fun k hk _ => Below.heap_alloc w.drew _ k hk⟩, .inr rfl, hge⟩
    refine ⟨by rw [u8s_length, List.length_append]; simp, .inr ⟨w.heap.size, _, _, by simp, hbase, Go.heap_alloc_new w.drew _, by simpa using hge, grownCap_le_maxLen w (l.length + m) cp 5 (by unfold maxLen; omega), ?_, ?_⟩⟩
    · rw [zeroCells_u8, zeroCells_u8]; simp [u8s_length]; omega
    · rw [zeroCells_u8, zeroCells_u8, u8s_append]
      simp only [List.length_append, List.length_replicate, Nat.mul_one, Array.toList_append]
      rw [List.take_append_of_le_length (by simp [u8s_length])]
      exact List.take_of_length_le (by simp [u8s_length])

theorem wpList_append_zeros {ops : Array Oper} {rest : List Oper} {o : Oper} {a : Act} {w : World} {Q : Exit → Act → World → Prop} (hgd : o.guard = none) (s x : Operand)
    (ho : o.op = .call { callee := .builtin .append, args := #[s, x], argTypes := #[22, 3] }) {base : Nat} {v : Value} {l : List UInt8} (hs : a.eval s = v) (hown : OwnB w base v l)
    (m : Nat) (hx : a.eval x = .int .i64 (m : Int)) (hlen : l.length + m ≤ 70368744177664) (hbase : base ≤ w.heap.size)
    (h : ∀ A' c' w', Hid (OwnB w' base (.slice A' (l.length + m) c') (l ++ List.replicate m 0)) → Hid (w.grownBy w' v.ownBlock) →
      Hid ((Value.slice A' (l.length + m) c').ownBlock = v.ownBlock ∨ (Value.slice A' (l.length + m) c').ownBlock = some w.heap.size) → l.length + m ≤ c' → wpList Tryd.prog ops Q rest (a.put o.dst (.slice A' (l.length + m) c')) w') :
    wpList Tryd.prog ops Q (o :: rest) a w := by
  obtain ⟨A', c', w', hrun, h1, h2, h3, h4⟩ := run_append_zeros o.type hown m hlen hbase
  exact Lib.wpList_append_run w hgd s x _ _ ho _ _ hs hx _ _ hrun (h A' c' w' h1 h2 h3 h4)

theorem wpList_append_bytes {ops : Array Oper} {rest : List Oper} {o : Oper} {a : Act} {w : World} {Q : Exit → Act → World → Prop} (hgd : o.guard = none) (s x : Operand)
    (ho : o.op = .call { callee := .builtin .append, args := #[s, x], argTypes := #[22, 22] }) {base : Nat} {v : Value} {l : List UInt8} (hs : a.eval s = v) (hown : OwnB w base v l)
    {B : Nat} {A : Option Addr} {m c : Nat} {news : List UInt8} (hx : a.eval x = .slice A m c) (hr : BytesIn w B A m news)
    (hlen : l.length + m ≤ 140737488355328) (hbase : base ≤ w.heap.size)
    (h : ∀ A' c' w', Hid (OwnB w' base (.slice A' (l.length + m) c') (l ++ news)) → Hid (w.grownBy w' v.ownBlock) →
      Hid ((Value.slice A' (l.length + m) c').ownBlock = v.ownBlock ∨ (Value.slice A' (l.length + m) c').ownBlock = some w.heap.size) → wpList Tryd.prog ops Q rest (a.put o.dst (.slice A' (l.length + m) c')) w') :
    wpList Tryd.prog ops Q (o :: rest) a w := by
  obtain ⟨A', c', w', hrun, h1, h2, h3⟩ := run_append_bytes o.type hown hr (c := c) hlen hbase
  exact Lib.wpList_append_run w hgd s x _ _ ho _ _ hs hx _ _ hrun (h A' c' w' h1 h2 h3)
end Go.Proofs.YtgejndannlfhkaaDoor
