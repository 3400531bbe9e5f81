/- slices.Insert at the head of a [][]byte of the call's own; slices whose elements are slices of bytes. No condition but sizes. -/
import Derived.Test.YtgejndannlfhkaaDoorInsRoom
import Derived.Test.YtgejndannlfhkaaDoorChanged
namespace Go.Proofs.YtgejndannlfhkaaDoor
open Go Go.RowKit Go.Shelf

/-- One value is a slice of these bytes. -/
def SliceOf (w : World) (B : Nat) (v : Value) (l : List UInt8) : Prop := ∃ A m c, v = .slice A m c ∧ m ≤ c ∧ c ≤ maxLen ∧ BytesIn w B A m l

/-- These values are slices of these bytes, one by one. -/
def SlicesOf (w : World) (B : Nat) : List Value → List (List UInt8) → Prop
  | [], [] => True
  | v :: xs, l :: ps => SliceOf w B v l ∧ SlicesOf w B xs ps
  | _, _ => False

theorem SliceOf.one {w : World} {B : Nat} {v : Value} {l : List UInt8} (h : SliceOf w B v l) : v.oneCell' = true := by
  obtain ⟨A, m, c, rfl, _⟩ := h; rfl
theorem SliceOf.below {w w' : World} {B : Nat} {v : Value} {l : List UInt8} (h : SliceOf w B v l) (hb : Below B w w') : SliceOf w' B v l := by
  obtain ⟨A, m, c, e, h1, h2, h3⟩ := h; exact ⟨A, m, c, e, h1, h2, h3.below hb⟩
theorem SliceOf.more {w : World} {B B' : Nat} {v : Value} {l : List UInt8} (h : SliceOf w B v l) (hb : B ≤ B') : SliceOf w B' v l := by
  obtain ⟨A, m, c, e, h1, h2, h3⟩ := h; exact ⟨A, m, c, e, h1, h2, h3.more hb⟩
theorem SlicesOf.imp {w w' : World} {B B' : Nat} (hf : ∀ v l, SliceOf w B v l → SliceOf w' B' v l) : ∀ {xs : List Value} {ps : List (List UInt8)}, SlicesOf w B xs ps → SlicesOf w' B' xs ps
  | [], [], _ => trivial
  | _ :: _, _ :: _, h => ⟨hf _ _ h.1, SlicesOf.imp hf h.2⟩
  | [], _ :: _, h => h.elim
  | _ :: _, [], h => h.elim
theorem SlicesOf.below {w w' : World} {B : Nat} {xs : List Value} {ps : List (List UInt8)} (h : SlicesOf w B xs ps) (hb : Below B w w') : SlicesOf w' B xs ps := h.imp fun _ _ hh => hh.below hb
theorem SlicesOf.more {w : World} {B B' : Nat} {xs : List Value} {ps : List (List UInt8)} (h : SlicesOf w B xs ps) (hb : B ≤ B') : SlicesOf w B' xs ps := h.imp fun _ _ hh => hh.more hb
theorem SlicesOf.one {w : World} {B : Nat} : ∀ {xs : List Value} {ps : List (List UInt8)}, SlicesOf w B xs ps → ∀ u ∈ xs, u.oneCell' = true
  | [], _, _ => fun u hu => by cases hu
  | _ :: _, _ :: _, h => fun u hu => by
    rcases List.mem_cons.1 hu with rfl | hu
    · exact h.1.one
    · exact SlicesOf.one h.2 u hu
  | _ :: _, [], h => h.elim
theorem SlicesOf.length {w : World} {B : Nat} : ∀ {xs : List Value} {ps : List (List UInt8)}, SlicesOf w B xs ps → xs.length = ps.length
  | [], [], _ => rfl
  | _ :: _, _ :: _, h => by simp [SlicesOf.length h.2]
  | [], _ :: _, h => h.elim
  | _ :: _, [], h => h.elim
theorem SlicesOf.get {w : World} {B : Nat} : ∀ {xs : List Value} {ps : List (List UInt8)}, SlicesOf w B xs ps → ∀ i, i < xs.length → ∃ v, xs[i]? = some v ∧ SliceOf w B v (ps.getD i [])
  | [], _, _, i, hi => by simp at hi
  | _ :: _, _ :: _, h, 0, _ => ⟨_, rfl, h.1⟩
  | _ :: _, _ :: _, h, i + 1, hi => SlicesOf.get h.2 i (by simpa using hi)
  | _ :: _, [], h, _, _ => h.elim

theorem partsIn_of {w : World} {B : Nat} {A : Option Addr} {n : Nat} {xs : List Value} {ps : List (List UInt8)} (hv : ValsIn w B A n xs) (hs : SlicesOf w B xs ps) : PartsIn w B A n ps := by
  refine ⟨by rw [← hs.length, hv.1], fun hn => ?_⟩
  obtain ⟨g, o, e, hg, hc⟩ := hv.2 hn
  refine ⟨g, o, e, hg, fun i hi => ?_⟩
  obtain ⟨v, hv', A', m, c, rfl, h1, h2, h3⟩ := hs.get i (by rw [hv.1]; exact hi)
  exact ⟨A', m, c, hc i _ hv', h1, h2, h3⟩

theorem slicesOf_of (w : World) (B : Nat) (f : Nat → Value) : ∀ (ps : List (List UInt8)) (k : Nat), (∀ i, i < ps.length → SliceOf w B (f (k + i)) (ps.getD i [])) → SlicesOf w B ((List.range ps.length).map fun i => f (k + i)) ps
  | [], _, _ => trivial
  | p :: ps, k, h => by
    simp only [List.length_cons, List.range_succ_eq_map, List.map_cons, List.map_map]
    refine ⟨h 0 (by simp), ?_⟩
    have := slicesOf_of w B f ps (k + 1) (fun i hi => by
      have := h (i + 1) (by simpa using hi)
      rwa [show k + (i + 1) = k + 1 + i by omega] at this)
    have e : ((fun i => f (k + i)) ∘ Nat.succ) = fun i => f (k + 1 + i) := by funext i; simp [Nat.succ_eq_add_one]; congr 1; omega
    rw [e]; exact this

theorem PartsIn.vals {w : World} {B : Nat} {A : Option Addr} {n : Nat} {ps : List (List UInt8)} (h : PartsIn w B A n ps) : ∃ xs, ValsIn w B A n xs ∧ SlicesOf w B xs ps := by
  by_cases hn : 0 < n
  · obtain ⟨g, o, e, hg, hc⟩ := h.2 hn
    refine ⟨(List.range ps.length).map fun i => (w.cell? ⟨g, o + i, none⟩).getD undef, ⟨by simp [h.1], fun _ => ⟨g, o, e, hg, fun i v hi => ?_⟩⟩, ?_⟩
    · have hi' : i < n := by
        have := (List.getElem?_eq_some_iff.1 hi).1
        have e := h.1; simp at this; omega
      obtain ⟨A', m, c, h1, _⟩ := hc i hi'
      rw [List.getElem?_map, List.getElem?_range (by rw [h.1]; exact hi')] at hi
      simp [h1] at hi
      rw [h1, hi]
    · have := slicesOf_of w B (fun i => (w.cell? ⟨g, o + i, none⟩).getD undef) ps 0 (fun i hi => by
        obtain ⟨A', m, c, h1, h2⟩ := hc i (by rw [← h.1]; exact hi)
        exact ⟨A', m, c, by simp [h1], h2⟩)
      simpa using this
  · obtain rfl : n = 0 := by omega
    obtain rfl : ps = [] := List.eq_nil_of_length_eq_zero h.1
    exact ⟨[], ValsIn.nil _ _ _, trivial⟩

theorem OwnV.lenle {w : World} {base : Nat} {e : TypeId} {A : Option Addr} {n c : Nat} {xs : List Value} (h : OwnV w base e (.slice A n c) xs) : n = xs.length ∧ n ≤ c ∧ (0 < n → ∃ g, A = some ⟨g, 0, Option.none⟩ ∧ base ≤ g ∧ g < w.heap.size) := by
  obtain ⟨A', c', e', h1, h2⟩ := h.form
  injection e' with e1 e2 e3
  subst e1 e2 e3
  refine ⟨rfl, h1, fun hn => ?_⟩
  rcases h.2 with ⟨e, h0⟩ | ⟨g, cap, cur, e, hb, hg, _⟩
  · omega
  · injection e with e1
    exact ⟨g, e1, hb, (Array.getElem?_eq_some_iff.1 hg).1⟩

/-- slices.Insert of one value at the head of a slice of the call's own. -/
theorem insert_any (A : Option Addr) (n c base vb : Nat) (v0 : Value) (xs : List Value) (w : World) (hn2 : n ≤ 1099511627775) (hown : OwnV w base 22 (.slice A n c) xs) (hv : Row w vb 22 #[v0]) (h1 : v0.oneCell' = true)
    (hxs : ∀ u ∈ xs, u.oneCell' = true) (hb : base ≤ w.heap.size) (hvb : vb < base ∨ ∀ k, (Value.slice A n c).ownBlock = some k → k < vb) :
    Calls Tryd.prog 52 #[.slice A n c, .int .i64 0, .slice (some ⟨vb, 0, none⟩) 1 1] w (Inserted w base v0 xs (Value.slice A n c).ownBlock) := by
  obtain ⟨hl, hnc, hpos⟩ := hown.lenle
  by_cases h0 : 0 < n
  · obtain ⟨g, rfl, hbg, hg⟩ := hpos h0
    by_cases hc : n + 1 ≤ c
    · exact insert_room g n c base vb v0 xs w h0 hc (by omega) hown hv h1 hxs (by
        rcases hvb with h | h
        · omega
        · have := h g rfl; omega)
    · obtain rfl : c = n := by omega
      exact (insert_grow g c base vb v0 xs w h0 (by omega) hown hv h1 hxs hb).mono fun e w' hh => by
        obtain ⟨A', c', e1, e2, e3⟩ := hh
        exact ⟨A', c', e1, e2, ⟨e3.os, e3.tape, e3.output, e3.size, fun k hk hne => e3.block k hk nofun⟩⟩
  · obtain rfl : n = 0 := by omega
    obtain rfl : xs = [] := List.eq_nil_of_length_eq_zero hl.symm
    exact insert_none A c base vb v0 w hown hv h1 hb
end Go.Proofs.YtgejndannlfhkaaDoor
