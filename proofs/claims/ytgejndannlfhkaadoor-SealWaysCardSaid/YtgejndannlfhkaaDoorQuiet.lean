/- A region that draws its order and whose operations read or call functions that leave what was there alone: one walk in the order of the text serves every order. No condition. -/
import Derived.Test.YtgejndannlfhkaaDoorTells
import Derived.Deep.Quiet
import Derived.Stop.BytesEq
namespace Go.Proofs.YtgejndannlfhkaaDoor
open Go Go.RowKit Go.Shelf

/-- A world in which what was there in W is as it was. -/
def Alike (W w : World) : Prop := Below W.heap.size W w

theorem Alike.row {W w : World} (h : Alike W w) {g : Nat} {t : TypeId} {cs : Array Value} (hr : Row W g t cs) : Row w g t cs := hr.below h hr.lt

section
variable {P : Program} {W : World} {ops : Array Oper} {rest : List Oper} {o : Oper} {a : Act} {Q : Act → Prop}

theorem wp_region_alike {id : Nat} {Q : Exit → Act → World → Prop} {a : Act} {w : World} {l : List Oper} (hm : P.follows .mixedOrders = true) (hB : Region.lexB .any l.toArray = true)
    (h : wpQuiet P l.toArray (Alike w) (fun a' => ∀ w', Alike w w' → Q .normal a' w') l a) : (Code.region id l.toArray true).wp P Q a w :=
  wp_region_quiet (C := Alike w) hm hB ⟨rfl, rfl, rfl, Nat.le_refl _, fun _ _ => rfl⟩ (by simpa using h)

theorem q_skip (d : Option Tmp) (hd : o.dst = d) (hw : Region.wanted o (yielded ops a.tmps) = false) (h : wpQuiet P ops (Alike W) Q rest (a.put d undef)) : wpQuiet P ops (Alike W) Q (o :: rest) a := by
  subst hd
  simp only [wpQuiet, hw, Bool.false_eq_true, if_false]
  exact h

theorem q_val (d : Option Tmp) (v : Value) (hd : o.dst = d) (hw : Region.wanted o (yielded ops a.tmps) = true) (hr : ∀ w, Alike W w → (execOp a.eval o).run P w = .ok (.value v) w) (h : wpQuiet P ops (Alike W) Q rest (a.put d v)) :
    wpQuiet P ops (Alike W) Q (o :: rest) a := by
  subst hd
  simp only [wpQuiet, hw, if_true]
  exact ⟨v, fun w hc => by unfold Oper.quietAt; rw [hr w hc]; exact ⟨rfl, rfl⟩, h⟩

theorem q_call (d : Option Tmp) (v : Value) (f : FuncId) (args : Array Value) (hd : o.dst = d) (hw : Region.wanted o (yielded ops a.tmps) = true) (hr : ∀ w, (execOp a.eval o).run P w = .ok (.enter f args) w)
    (hc : ∀ w, Alike W w → Calls P f args w fun e w' => e = .returned v ∧ Below w.heap.size w w') (h : wpQuiet P ops (Alike W) Q rest (a.put d v)) : wpQuiet P ops (Alike W) Q (o :: rest) a := by
  subst hd
  simp only [wpQuiet, hw, if_true]
  refine ⟨v, fun w hw' => ?_, h⟩
  unfold Oper.quietAt
  rw [hr w]
  refine ⟨rfl, (hc w hw').mono ?_⟩
  rintro e w'' ⟨he, hb⟩
  exact ⟨he, hw'.trans (hb.mono hw'.size)⟩

/-- A move. -/
theorem q_move (d : Option Tmp) (v : Value) (x : Operand) (hd : o.dst = d) (hw : Region.wanted o (yielded ops a.tmps) = true) (ho : o.op = .move x) (hx : a.eval x = v) (h : wpQuiet P ops (Alike W) Q rest (a.put d v)) :
    wpQuiet P ops (Alike W) Q (o :: rest) a :=
  q_val d v hd hw (fun w _ => by simp [execOp, ho, hx]) h
theorem q_assign (d : Option Tmp) (v : Value) (x : Operand) (hd : o.dst = d) (hw : Region.wanted o (yielded ops a.tmps) = true) (ho : o.op = .assign x) (hx : a.eval x = v) (h : wpQuiet P ops (Alike W) Q rest (a.put d v)) :
    wpQuiet P ops (Alike W) Q (o :: rest) a :=
  q_val d v hd hw (fun w _ => by simp [execOp, ho, hx]) h
/-- A whole array, loaded. -/
theorem q_load_row (d : Option Tmp) (ty : TypeId) (x : Operand) (g : Nat) (t : TypeId) (cs : Array Value) (u : TypeDesc) (hd : o.dst = d) (hw : Region.wanted o (yielded ops a.tmps) = true) (ho : o.op = .load ty x) (hx : a.eval x = .pointer (some ⟨g, 0, none⟩))
    (hr : Row W g t cs) (hu : P.underlying ty = some u) (hd' : (match u with | .struct _ | .array _ _ => true | _ => false) = true) (hi : (P.info? ty).map (·.size) = some cs.size)
    (h : wpQuiet P ops (Alike W) Q rest (a.put d (.agg cs))) : wpQuiet P ops (Alike W) Q (o :: rest) a :=
  q_val d (.agg cs) hd hw (fun w hc => by
    have := run_loadVar_row (P := P) w g t ty cs (0, 0) u (hc.row hr) hu hd' hi
    unfold execOp
    simp only [ho, hx, Instr.loadAt, Instr.sureAddr, Sem.run_bind, Sem.run_pure, Result.andThen_ok, this]) h
end
end Go.Proofs.YtgejndannlfhkaaDoor
