/- Words for slices whose elements are one cell each, of whatever type: what a slice reads as, a row of the call's own, append onto it. No condition. -/
import Derived.Test.YtgejndannlfhkaaDoorBytes
namespace Go.Proofs.YtgejndannlfhkaaDoor
open Go Go.RowKit

/-- The slice at A, of n elements of one cell each, holds the cells xs, and lies below block B. -/
def ValsIn (w : World) (B : Nat) (A : Option Addr) (n : Nat) (xs : List Value) : Prop :=
  xs.length = n ∧ (0 < n → ∃ g o, A = some ⟨g, o, none⟩ ∧ g < B ∧ ∀ i v, xs[i]? = some v → w.cell? ⟨g, o + i, none⟩ = some v)

section
variable {w w' : World} {B B' : Nat} {A : Option Addr} {n : Nat} {xs : List Value}
theorem ValsIn.nil (w : World) (B : Nat) (A : Option Addr) : ValsIn w B A 0 [] := ⟨rfl, fun h => absurd h (by omega)⟩
theorem ValsIn.below (h : ValsIn w B A n xs) (hb : Below B w w') : ValsIn w' B A n xs :=
  ⟨h.1, fun hn => by
    obtain ⟨g, o, e, hg, hc⟩ := h.2 hn
    exact ⟨g, o, e, hg, fun i v hi => (hb.cell (p := ⟨g, o + i, none⟩) hg).trans (hc i v hi)⟩⟩
theorem ValsIn.more (h : ValsIn w B A n xs) (hB : B ≤ B') : ValsIn w B' A n xs :=
  ⟨h.1, fun hn => by
    obtain ⟨g, o, e, hg, hc⟩ := h.2 hn
    exact ⟨g, o, e, by omega, hc⟩⟩
theorem ValsIn.cells (h : ValsIn w B A n xs) (hn : 0 < n) : ∃ ad : Addr, A = some ad ∧ ad.block < B ∧ ∀ j u, xs[j]? = some u → w.cell? (ad.add j) = some u := by
  obtain ⟨g, o, e, hg, hc⟩ := h.2 hn
  exact ⟨⟨g, o, none⟩, e, hg, fun j u hu => by rw [Addr.add_lit]; exact hc j u hu⟩
theorem ValsIn.of_row {t : TypeId} {g : Nat} (h : Row w g t xs.toArray) (hg : g < B) : ValsIn w B (some ⟨g, 0, none⟩) xs.length xs :=
  ⟨rfl, fun _ => ⟨g, 0, rfl, hg, fun i v hi => by rw [Nat.zero_add, h.cell i, List.getElem?_toArray]; exact hi⟩⟩
end

/-- A slice of the call's own, of these cells (elements of one cell, of type e). -/
def OwnV (w : World) (base : Nat) (e : TypeId) (v : Value) (xs : List Value) : Prop := w.ownsRow base e 1 v xs.length xs

section
variable {w w' : World} {base : Nat} {e : TypeId} {v : Value} {xs : List Value}
theorem OwnV.none (w : World) (base : Nat) (e : TypeId) : OwnV w base e (.slice none 0 0) [] := World.ownsRow_nil w base e 1
theorem OwnV.form (h : OwnV w base e v xs) : ∃ A c, v = .slice A xs.length c ∧ xs.length ≤ c ∧ c ≤ maxLen := by
  rcases h.2 with ⟨rfl, hn⟩ | ⟨g, cap, cur, rfl, _, _, h1, h2, _⟩
  · exact ⟨Option.none, 0, by rw [hn], by omega, by unfold maxLen; omega⟩
  · exact ⟨_, cap, rfl, h1, h2⟩
theorem OwnV.vals {A : Option Addr} {n c : Nat} (h : OwnV w base e (.slice A n c) xs) : ValsIn w w.heap.size A n xs := by
  have hn : n = xs.length := by
    obtain ⟨A', c', e, _⟩ := h.form
    injection e
  subst hn
  refine ⟨rfl, fun h0 => ?_⟩
  rcases h.2 with ⟨e, hn⟩ | ⟨g, cap, cur, e, _, hg, _⟩
  · omega
  · injection e with e1 e2 e3
    subst e1
    exact ⟨g, 0, rfl, (Array.getElem?_eq_some_iff.1 hg).1, fun i v hi => by
      have := World.ownsRow.cells h (g := g) rfl i _ hi
      rwa [Addr.add_lit] at this⟩
theorem OwnV.kept {row : Option Nat} (h : OwnV w base e v xs) (hg : w.grownBy w' row) (hne : v.ownBlock = Option.none ∨ v.ownBlock ≠ row) : OwnV w' base e v xs := World.ownsRow.kept h hg hne
theorem OwnV.alloc (h : OwnV w base e v xs) (o : Obj) : OwnV (w.alloc o) base e v xs := World.ownsRow.alloc h o
theorem OwnV.below (h : OwnV w base e v xs) (hb : Below w.heap.size w w') : OwnV w' base e v xs :=
  h.kept (row := Option.none) ⟨hb.os, hb.tape, hb.output, hb.size, fun k hk _ => hb.block k hk⟩ (by cases v.ownBlock <;> simp)
theorem OwnV.lt (h : OwnV w base e v xs) : ∀ k, v.ownBlock = some k → base ≤ k ∧ k < w.heap.size := World.ownsRow.lt h
theorem OwnV.lower {base' : Nat} (h : OwnV w base e v xs) (hb : base' ≤ base) : OwnV w base' e v xs := by
  refine ⟨h.1, ?_⟩
  rcases h.2 with h | ⟨g, cap, cur, e, h1, r⟩
  · exact .inl h
  · exact .inr ⟨g, cap, cur, e, by omega, r⟩
end

/-- What is known of an element type of one cell. -/
structure OneCell (P : Program) (t e : TypeId) (z : Value) (bytes : Nat) : Prop where
  sl : P.underlying t = some (.slice e)
  info : (P.info? e).map (fun i => (i.zero, i.size, i.bytes)) = some (some z, 1, bytes)
  one : z.cells.size = 1

/-- 'append' onto a row of the call's own: its run. -/
theorem run_append_vals {P : Program} {t e : TypeId} {z : Value} {bytes : Nat} (T : OneCell P t e z bytes) {w : World} {base : Nat} {v : Value} {xs : List Value} (ty : TypeId) (hown : OwnV w base e v xs)
    {B : Nat} {A : Option Addr} {m c : Nat} {news : List Value} (hr : ValsIn w B A m news) (h1 : ∀ u ∈ news, u.oneCell' = true)
    (hlen : (xs.length + m) * bytes ≤ 140737488355328) (h63 : xs.length + m ≤ 1099511627776) (hbase : base ≤ w.heap.size) :
    ∃ A' c' w', (Builtin.append_ #[t, t] ty #[v, .slice A m c]).run P w = .ok (.slice A' (xs.length + m) c') w' ∧ OwnV w' base e (.slice A' (xs.length + m) c') (xs ++ news) ∧ w.grownBy w' v.ownBlock ∧
      ((Value.slice A' (xs.length + m) c').ownBlock = v.ownBlock ∨ (Value.slice A' (xs.length + m) c').ownBlock = some w.heap.size) := by
  obtain ⟨i0, hi, hz0, hz1, hz2⟩ := info_parts T.info
  have fin : ∀ v' w', (Builtin.append_ #[t, t] ty #[v, .slice A m c]).run P w = .ok v' w' → w'.ownsRow base e 1 v' (xs.length + m) (xs ++ news) → w.grownBy w' v.ownBlock →
      (v'.ownBlock = v.ownBlock ∨ v'.ownBlock = some w.heap.size) →
      ∃ A' c' w', (Builtin.append_ #[t, t] ty #[v, .slice A m c]).run P w = .ok (.slice A' (xs.length + m) c') w' ∧ OwnV w' base e (.slice A' (xs.length + m) c') (xs ++ news) ∧ w.grownBy w' v.ownBlock ∧
      ((Value.slice A' (xs.length + m) c').ownBlock = v.ownBlock ∨ (Value.slice A' (xs.length + m) c').ownBlock = some w.heap.size) := by
    intro v' w' h1 h2 h3 h4
    have h5 : OwnV w' base e v' (xs ++ news) := by
      unfold OwnV
      rw [List.length_append, hr.1]
      exact h2
    obtain ⟨A', c', e, _⟩ := h5.form
    rw [List.length_append, hr.1] at e
    subst e
    exact ⟨A', c', w', h1, h5, h3, h4⟩
  by_cases hm : 0 < m
  · obtain ⟨ad, rfl, _, hc⟩ := hr.cells hm
    obtain ⟨v', w', hrun, h2, h3, _, h5⟩ := run_append_own_at (P := P) w base t ty e i0 z 1 bytes T.sl hi hz0 hz1 hz2 T.one (by decide) v xs.length xs hown ad m c news
      (by rw [hr.1, Nat.mul_one]) hc h1 (by unfold maxLen; omega) hlen hbase
    exact fin v' w' hrun h2 h3 h5
  · obtain rfl : m = 0 := by omega
    obtain rfl : news = [] := List.eq_nil_of_length_eq_zero hr.1
    have hrun : (Builtin.append_ #[t, t] ty #[v, .slice A 0 c]).run P w = .ok v w := by
      have hl0 : ∀ ad, (loadCells ad 0).run P w = .ok #[] w := fun ad => run_loadCells_list w ad [] (by simp)
      rcases hown.2 with ⟨rfl, h0⟩ | ⟨g, cap, cur, rfl, _, _, hnc, _⟩
      · cases A <;> simp [Builtin.append_, run_underlying T.sl, sizeOf, typeInfo, hi, Builtin.lenOf, Builtin.firstCells, hl0]
      · cases A <;> simp [Builtin.append_, run_underlying T.sl, sizeOf, typeInfo, hi, Builtin.lenOf, Builtin.firstCells, hnc, storeCells, hl0]
    exact fin v w hrun (by rw [List.append_nil]; exact hown) (World.grownBy.refl w _) (.inl rfl)

theorem wpList_append_vals {P : Program} {t e : TypeId} {z : Value} {bytes : Nat} (T : OneCell P t e z bytes) {ops : Array Oper} {rest : List Oper} {o : Oper} {a : Act} {w : World} {Q : Exit → Act → World → Prop} (hgd : o.guard = none) (s x : Operand)
    (ho : o.op = .call { callee := .builtin .append, args := #[s, x], argTypes := #[t, t] }) {base : Nat} {v : Value} {xs : List Value} (hs : a.eval s = v) (hown : OwnV w base e v xs)
    {B : Nat} {A : Option Addr} {m c : Nat} {news : List Value} (hx : a.eval x = .slice A m c) (hr : ValsIn w B A m news) (h1 : ∀ u ∈ news, u.oneCell' = true)
    (hlen : (xs.length + m) * bytes ≤ 140737488355328) (h63 : xs.length + m ≤ 1099511627776) (hbase : base ≤ w.heap.size)
    (h : ∀ A' c' w', Hid (OwnV w' base e (.slice A' (xs.length + m) c') (xs ++ news)) → Hid (w.grownBy w' v.ownBlock) →
      Hid ((Value.slice A' (xs.length + m) c').ownBlock = v.ownBlock ∨ (Value.slice A' (xs.length + m) c').ownBlock = some w.heap.size) → wpList P ops Q rest (a.put o.dst (.slice A' (xs.length + m) c')) w') :
    wpList P ops Q (o :: rest) a w := by
  obtain ⟨A', c', w', hrun, h1, h2, h3⟩ := run_append_vals T o.type hown hr (c := c) h1 hlen h63 hbase
  exact Lib.wpList_append_run w hgd s x _ _ ho _ _ hs hx _ _ hrun (h A' c' w' h1 h2 h3)

theorem oneCell_sl : OneCell Tryd.prog 31 22 (.slice none 0 0) 24 := ⟨Tryd.underlying31, by kernel_rfl, rfl⟩
end Go.Proofs.YtgejndannlfhkaaDoor
