/- 'append' of zeros onto a slice of bytes of the call's own, or onto a slice of a whole array of the call's own. No condition but sizes. -/
import Derived.Test.YtgejndannlfhkaaDoorBytes
namespace Go.Proofs.YtgejndannlfhkaaDoor
open Go Go.RowKit

/-- The slice of a whole array of the call's own. -/
def OwnA (w : World) (base : Nat) (v : Value) (l : List UInt8) : Prop := ∃ g T, v = .slice (some ⟨g, 0, none⟩) l.length l.length ∧ base ≤ g ∧ Row w g T (u8s l).toArray ∧ l.length ≤ maxLen

/-- Either. -/
def OwnG (w : World) (base : Nat) (v : Value) (l : List UInt8) : Prop := OwnB w base v l ∨ OwnA w base v l

theorem OwnG.form {w : World} {base : Nat} {v : Value} {l : List UInt8} (h : OwnG w base v l) : ∃ A c, v = .slice A l.length c ∧ l.length ≤ c ∧ c ≤ maxLen := by
  rcases h with h | ⟨g, T, rfl, _, hr, hm⟩
  · exact h.form
  · exact ⟨_, _, rfl, Nat.le_refl _, hm⟩
theorem OwnG.bytes {w : World} {base : Nat} {A : Option Addr} {n c : Nat} {l : List UInt8} (h : OwnG w base (.slice A n c) l) : BytesIn w w.heap.size A n l := by
  rcases h with h | ⟨g, T, e, _, hr, _⟩
  · exact h.bytes
  · injection e with e1 e2 e3
    subst e1 e2
    exact ⟨rfl, fun _ => ⟨g, 0, rfl, hr.lt, fun i hi => by rw [Nat.zero_add, hr.cell i, List.getElem?_toArray, u8s_get l i hi]⟩⟩
theorem OwnG.below {w w' : World} {base : Nat} {v : Value} {l : List UInt8} (h : OwnG w base v l) (hb : Below w.heap.size w w') : OwnG w' base v l := by
  rcases h with h | ⟨g, T, e, h1, hr, hm⟩
  · exact .inl (h.below hb)
  · exact .inr ⟨g, T, e, h1, hr.below hb hr.lt, hm⟩
theorem OwnG.lower {w : World} {base base' : Nat} {v : Value} {l : List UInt8} (h : OwnG w base v l) (hb : base' ≤ base) : OwnG w base' v l := by
  rcases h with h | ⟨g, T, e, h1, hr, hm⟩
  · exact .inl (h.lower hb)
  · exact .inr ⟨g, T, e, by omega, hr, hm⟩
theorem OwnG.lt {w : World} {base : Nat} {v : Value} {l : List UInt8} (h : OwnG w base v l) : ∀ k, v.ownBlock = some k → base ≤ k ∧ k < w.heap.size := by
  rcases h with h | ⟨g, T, rfl, h1, hr, hm⟩
  · exact h.lt
  · intro k hk
    simp [Value.ownBlock] at hk
    have := hr.lt
    omega

theorem run_append_zeros' {w : World} {base : Nat} {v : Value} {l : List UInt8} (ty : TypeId) (hown : OwnG w base v l) (m : Nat)
    (hlen : l.length + m ≤ 70368744177664) (hbase : base ≤ w.heap.size) :
    ∃ A' c' w', (Builtin.append_ #[22, 3] ty #[v, .int .i64 (m : Int)]).run Tryd.prog w = .ok (.slice A' (l.length + m) c') w' ∧ OwnG w' base (.slice A' (l.length + m) c') (l ++ List.replicate m 0) ∧ w.grownBy w' v.ownBlock := by
  rcases hown with hown | ⟨g, T, rfl, h1, hr, hml⟩
  · obtain ⟨A', c', w', h1, h2, h3, _⟩ := run_append_zeros ty hown m hlen hbase
    exact ⟨A', c', w', h1, .inl h2, h3⟩
  · obtain ⟨i0, hi, hz0, hz1, hz2⟩ := info_parts info_u8
    have hul := Tryd.underlying22
    have hui := Tryd.underlying3
    by_cases hm : 0 < m
    · have hold : (Builtin.firstCells i0.size l.length (.slice (some ⟨g, 0, none⟩) l.length l.length)).run Tryd.prog w.drew = .ok (u8s l).toArray w.drew := by
        have := run_loadCells_list (P := Tryd.prog) w.drew ⟨g, 0, none⟩ (u8s l) (fun j u hu => by
          rw [Addr.add_lit, Nat.zero_add, Row.cell hr.drew j, List.getElem?_toArray]; exact hu)
        simpa [Builtin.firstCells, hz1, u8s_length] using this
      have hcapn : Builtin.nextslicecap (l.length + m) l.length * i0.bytes ≤ 281474976710656 := by
        rw [hz2, Nat.mul_one]
        unfold Builtin.nextslicecap
        split
        · omega
        · split
          · omega
          · have gb : ∀ (r c : Nat), c ≤ 140737488355328 → Builtin.growBy (l.length + m) r c ≤ 281474976710656 := by
              intro r
              induction r with
              | zero => intro c hc; simp [Builtin.growBy]; omega
              | succ r ih =>
                intro c hc
                simp only [Builtin.growBy]
                split
                · omega
                · exact ih _ (by omega)
            exact gb 4 l.length (by omega)
      have hrun := Lib.run_append_grow_zeros (P := Tryd.prog) w 22 3 ty 5 i0 (.int .u8 0) .i64 .i64 hul hui hi hz0 (some ⟨g, 0, none⟩) l.length l.length (u8s l) hold m hm (by omega) (by omega) (by omega) (by rw [hz2]; omega) hcapn
      have hge := grownCap_ge w (l.length + m) l.length 5
      refine ⟨_, _, _, hrun, .inl ?_, ⟨rfl, rfl, rfl, by simp, fun k hk _ => Below.heap_alloc w.drew _ k hk⟩⟩
      refine ⟨by rw [u8s_length, List.length_append]; simp, .inr ⟨w.heap.size, _, _, by simp, hbase, Go.heap_alloc_new w.drew _, by simpa using hge, grownCap_le_maxLen w (l.length + m) l.length 5 (by unfold maxLen; omega), ?_, ?_⟩⟩
      · rw [zeroCells_u8, zeroCells_u8]; simp [u8s_length]; omega
      · rw [zeroCells_u8, zeroCells_u8, u8s_append]
        simp only [List.length_append, List.length_replicate, Nat.mul_one, Array.toList_append]
        rw [List.take_append_of_le_length (by simp [u8s_length])]
        exact List.take_of_length_le (by simp [u8s_length])
    · obtain rfl : m = 0 := by omega
      have hi64 : IntKind.i64.wrap 0 = 0 := by decide
      refine ⟨some ⟨g, 0, none⟩, l.length, w, ?_, .inr ⟨g, T, by simp, h1, by simpa using hr, by simpa using hml⟩, World.grownBy.refl w _⟩
      simp [Builtin.append_, run_underlying hul, run_underlying hui, sizeOf, typeInfo, zeroValue, hi, hz0, hz2, asInt, asIntOf, hi64, storeCells]

theorem wpList_append_zeros' {ops : Array Oper} {rest : List Oper} {o : Oper} {a : Act} {w : World} {Q : Exit → Act → World → Prop} (hgd : o.guard = none) (s x : Operand)
    (ho : o.op = .call { callee := .builtin .append, args := #[s, x], argTypes := #[22, 3] }) {base : Nat} {v : Value} {l : List UInt8} (hs : a.eval s = v) (hown : OwnG w base v l)
    (m : Nat) (hx : a.eval x = .int .i64 (m : Int)) (hlen : l.length + m ≤ 70368744177664) (hbase : base ≤ w.heap.size)
    (h : ∀ A' c' w', Hid (OwnG w' base (.slice A' (l.length + m) c') (l ++ List.replicate m 0)) → Hid (w.grownBy w' v.ownBlock) → wpList Tryd.prog ops Q rest (a.put o.dst (.slice A' (l.length + m) c')) w') :
    wpList Tryd.prog ops Q (o :: rest) a w := by
  obtain ⟨A', c', w', hrun, h1, h2⟩ := run_append_zeros' o.type hown m hlen hbase
  exact Lib.wpList_append_run w hgd s x _ _ ho _ _ hs hx _ _ hrun (h A' c' w' h1 h2)
end Go.Proofs.YtgejndannlfhkaaDoor
