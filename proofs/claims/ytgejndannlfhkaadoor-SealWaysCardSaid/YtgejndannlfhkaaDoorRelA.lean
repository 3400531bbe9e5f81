/- An append in a drawn region, in the relational walk: its rule; the run of an append onto a full row. No condition but sizes. -/
import Derived.Test.YtgejndannlfhkaaDoorRelC
namespace Go.Proofs.YtgejndannlfhkaaDoor
open Go Go.RowKit

section
variable {P : Program} {md : Region.Mode} {ops : Array Oper} {E : World → World → Prop} {C : World → Prop} {Q : Exit → Act → World → Prop} {tl : List Oper} {a : Act} {all rest : List (Nat × Option Tmp)} {known : Known} {i : Nat} {d : Option Tmp} {o : Oper}
/-- An append. -/
theorem rel_append (hi : ops[i]? = some o) (T : Value → World → Prop) (hT : ∀ v w w', T v w → E w w' → T v w') (hd : o.dst = d) (hgd : o.guard = none) (s x : Operand) (t tn : TypeId)
    (ho : o.op = .call { callee := .builtin .append, args := #[s, x], argTypes := #[t, tn] })
    (h : ∀ vs w', C w' → Needs md o vs w' known → ∃ sv xv v w2, (putAll vs all a).eval s = sv ∧ (putAll vs all a).eval x = xv ∧ (Builtin.append_ #[t, tn] o.type #[sv, xv]).run P w' = .ok v w2 ∧ T v w2 ∧ E w' w2)
    (hrest : relWalk P md ops E C Q tl a all rest ((i, T) :: known)) : relWalk P md ops E C Q tl a all ((i, d) :: rest) known := by
  refine ⟨T, hT, fun vs w' hC hn => ?_, hrest⟩
  rw [getD_of hi] at hn ⊢
  obtain ⟨sv, xv, v, w2, h1, h2, h3, h4, h5⟩ := h vs w' hC hn
  subst hd
  exact Lib.wpList_append_run w' hgd s x t tn ho sv xv h1 h2 v w2 h3 ⟨v, rfl, h4, h5⟩
end

/-- Appending to a slice that is full lays a new row. -/
theorem run_append_full {w : World} {B1 B2 : Nat} {a1 a2 : Addr} {n m c : Nat} {l k : List UInt8} (ty : TypeId) (h1 : BytesIn w B1 (some a1) n l) (h2 : BytesIn w B2 (some a2) m k) (hn : 0 < n) (hm : 0 < m) (hlen : n + m ≤ 1000000) :
    ∃ c' w', (Builtin.append_ #[22, 22] ty #[.slice (some a1) n n, .slice (some a2) m c]).run Tryd.prog w = .ok (.slice (some ⟨w.heap.size, 0, none⟩) (n + m) c') w' ∧ Below w.heap.size w w' ∧
      BytesIn w' w'.heap.size (some ⟨w.heap.size, 0, none⟩) (n + m) (l ++ k) ∧ n + m ≤ c' ∧ c' ≤ maxLen := by
  obtain ⟨i0, hi, hz0, hz1, hz2⟩ := info_parts info_u8
  obtain ⟨ad1, e1, _, hc1⟩ := h1.cells hn
  obtain ⟨ad2, e2, _, hc2⟩ := h2.cells hm
  injection e1 with e1
  injection e2 with e2
  subst e1 e2
  have hl := h1.1
  have hk := h2.1
  have hr := run_append_grow (P := Tryd.prog) w 22 ty 5 i0 (.int .u8 0) Tryd.underlying22 hi hz0 a1 n n (u8s l) (by rw [u8s_length, hz1, hl, Nat.mul_one]) hc1 a2 m c (u8s k) (by rw [u8s_length, hz1, hk, Nat.mul_one]) hc2 (by omega) (by omega)
    (growslice_fits (by omega) (by rw [hz2]; omega))
  have hge := grownCap_ge w (n + m) n 5
  have hcm := grownCap_le_maxLen w (n + m) n 5 (by unfold maxLen; omega)
  refine ⟨_, _, hr, ⟨rfl, rfl, rfl, by simp, fun q hq => Below.heap_alloc w.drew _ q hq⟩, ?_, hge, hcm⟩
  refine ⟨by rw [List.length_append]; omega, fun _ => ⟨w.heap.size, 0, rfl, by simp, fun i hi' => ?_⟩⟩
  have hrow : Row (w.drew.alloc (.cells ((u8s l).toArray ++ (u8s k).toArray ++ Builtin.zeroCells (Value.int .u8 0).cells (grownCap w (n + m) n 5 - (n + m))) 5)) w.heap.size 5 ((u8s l).toArray ++ (u8s k).toArray ++ Builtin.zeroCells (Value.int .u8 0).cells (grownCap w (n + m) n 5 - (n + m))) := Row.new w.drew _ _
  rw [Nat.zero_add, hrow.cell i]
  have hlk : (l ++ k).length = n + m := by rw [List.length_append]; omega
  have e : (u8s l).toArray ++ (u8s k).toArray = (u8s (l ++ k)).toArray := by rw [u8s_append]; simp
  rw [Array.getElem?_append_left (by simp [u8s_length]; omega), e, List.getElem?_toArray, u8s_get _ _ (by omega)]
end Go.Proofs.YtgejndannlfhkaaDoor
