/- Orders of a drawn region by hand: two operations may come up; the rest forced. No condition. -/
import Derived.Test.YtgejndannlfhkaaDoorFlow
namespace Go.Proofs.YtgejndannlfhkaaDoor
open Go
section
variable {P : Program} {md : Region.Mode} {ops : Array Oper} {Q : Exit → Act → World → Prop} {a : Act} {w : World}

/-- Two may come up. -/
theorem wpAny_two (i j : Nat) {fuel : Nat} {listed : Array Bool} (hr : Region.ready md ops listed = [i, j])
    (hi : wpOp P ops Q i (wpAny P md ops Q fuel (listed.setIfInBounds i true)) a w) (hj : wpOp P ops Q j (wpAny P md ops Q fuel (listed.setIfInBounds j true)) a w) : wpAny P md ops Q (fuel + 1) listed a w := by
  refine ⟨fun h => (by rw [hr] at h; cases h), fun k hk => ?_⟩
  rw [hr] at hk
  simp only [List.mem_cons, List.not_mem_nil, or_false] at hk
  rcases hk with rfl | rfl
  · exact hi
  · exact hj

/-- This one first; what is left is forced. -/
theorem wpOp_forced (i : Nat) (ks : List Nat) {o : Oper} (l : List Oper) {listed : Array Bool} (n : Nat) (hn : ks.length = n) (hi : ops[i]? = some o) (hl : ks.map (ops[·]?) = l.map some)
    (hB : seqOnB md ops ks (listed.setIfInBounds i true) = true) (h : wpList P ops Q (o :: l) a w) : wpOp P ops Q i (wpAny P md ops Q n (listed.setIfInBounds i true)) a w := by
  subst hn
  have hw : wpOp P ops Q i (wpList P ops Q l) a w := by unfold wpOp; simp only [hi]; exact h
  exact wpOp_mono (fun a' w' h' => wpAny_of_seqOn ks l _ a' w' hl hB h') hw

/-- An operation whose run is known. -/
theorem wpOp_run {i : Nat} {K : Act → World → Prop} (d : Option Tmp) (v : Value) (w' : World) {o : Oper} (hi : ops[i]? = some o) (hd : o.dst = d) (hw : Region.wanted o (yielded ops a.tmps) = true) (hr : (execOp a.eval o).run P w = .ok (.value v) w')
    (h : K (a.put d v) w') : wpOp P ops Q i K a w := by
  subst hd
  unfold wpOp
  simp only [hi, hw, if_true]
  refine .inl ?_
  unfold Oper.wp
  rw [hr]
  exact h
end
end Go.Proofs.YtgejndannlfhkaaDoor
