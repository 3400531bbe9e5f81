/- What the drawn region of SealWays keeps: rows stay, but a row of a key may be stored. No condition. -/
import Derived.Test.YtgejndannlfhkaaDoorFour
import Derived.Test.YtgejndannlfhkaaDoorRelV
namespace Go.Proofs.YtgejndannlfhkaaDoor
open Go Go.RowKit Go.Shelf

/-- What was there below B stays; every block stays, but a zero key may become this one. -/
structure GrowsK (B : Nat) (out : List UInt8) (w w' : World) : Prop where
  below : Below B w w'
  rows : ∀ k, k < w.heap.size → w'.heap[k]? = w.heap[k]? ∨ (Row w k 43 (u8s (zeros 32)).toArray ∧ Row w' k 43 (u8s out).toArray)
section
variable {B : Nat} {out : List UInt8} {a b c w w' : World} {t : TypeId} {g : Nat} {cs : Array Value}
theorem GrowsK.refl (B : Nat) (out : List UInt8) (w : World) : GrowsK B out w w := ⟨Below.refl _ _, fun _ _ => .inl rfl⟩
theorem GrowsK.trans (h : GrowsK B out a b) (k : GrowsK B out b c) : GrowsK B out a c :=
  ⟨h.below.trans k.below, fun i hi => by
    have hi' : i < b.heap.size := Nat.lt_of_lt_of_le hi h.below.size
    rcases h.rows i hi with e1 | ⟨r1, r2⟩ <;> rcases k.rows i hi' with e2 | ⟨r3, r4⟩
    · exact .inl (e2.trans e1)
    · exact .inr ⟨e1.symm.trans r3, r4⟩
    · exact .inr ⟨r1, e2.trans r2⟩
    · exact .inr ⟨r1, r4⟩⟩
theorem GrowsK.of (h : Below w.heap.size w w') (hB : B ≤ w.heap.size) : GrowsK B out w w' := ⟨h.mono hB, fun k hk => .inl (h.block k hk)⟩
theorem GrowsK.drew (w : World) : GrowsK B out w w.drew := ⟨⟨rfl, rfl, rfl, Nat.le_refl _, fun _ _ => rfl⟩, fun _ _ => .inl rfl⟩
theorem GrowsK.row (h : GrowsK B out w w') (hr : Row w g t cs) (ht : t ≠ 43) : Row w' g t cs := by
  rcases h.rows g hr.lt with e | ⟨r, _⟩
  · exact e.trans hr
  · have := hr.symm.trans r
    injection this with this
    injection this with _ h2
    exact absurd h2 ht
theorem GrowsK.own (h : GrowsK B out w w') {base : Nat} {v : Value} {l : List UInt8} (ho : OwnB w base v l) : OwnB w' base v l := by
  refine ⟨ho.1, ?_⟩
  rcases ho.2 with he | ⟨g, cap, cur, e, hb, hh, r⟩
  · exact .inl he
  · exact .inr ⟨g, cap, cur, e, hb, h.row hh (by decide), r⟩

/-- A key that may have been stored. -/
def KeyAt (B : Nat) (out : List UInt8) (v : Value) (w : World) : Prop := ∃ g, v = .pointer (some ⟨g, 0, none⟩) ∧ B ≤ g ∧ (Row w g 43 (u8s (zeros 32)).toArray ∨ Row w g 43 (u8s out).toArray)
def KeySet (B : Nat) (out : List UInt8) (v : Value) (w : World) : Prop := ∃ g, v = .pointer (some ⟨g, 0, none⟩) ∧ B ≤ g ∧ Row w g 43 (u8s out).toArray
theorem KeyAt.keep {v : Value} (h : KeyAt B out v w) (hg : GrowsK B out w w') : KeyAt B out v w' := by
  obtain ⟨g, e, hb, hr⟩ := h
  refine ⟨g, e, hb, ?_⟩
  rcases hr with hr | hr <;> rcases hg.rows g hr.lt with e2 | ⟨_, r2⟩
  · exact .inl (e2.trans hr)
  · exact .inr r2
  · exact .inr (e2.trans hr)
  · exact .inr r2
theorem KeySet.keep {v : Value} (h : KeySet B out v w) (hg : GrowsK B out w w') : KeySet B out v w' := by
  obtain ⟨g, e, hb, hr⟩ := h
  rcases hg.rows g hr.lt with e2 | ⟨_, r2⟩
  · exact ⟨g, e, hb, e2.trans hr⟩
  · exact ⟨g, e, hb, r2⟩
theorem KeyAt.new (hB : B ≤ w.heap.size) : KeyAt B out (.pointer (some ⟨w.heap.size, 0, none⟩)) (w.alloc (.cells (u8s (zeros 32)).toArray 43)) := ⟨_, rfl, hB, .inl (Row.new w _ _)⟩
theorem KeyAt.store {g : Nat} (hb : B ≤ g) (hr : Row w g 43 (u8s (zeros 32)).toArray ∨ Row w g 43 (u8s out).toArray) : Row (w.setRow g (u8s out).toArray) g 43 (u8s out).toArray ∧ GrowsK B out w (w.setRow g (u8s out).toArray) := by
  have hnew : Row (w.setRow g (u8s out).toArray) g 43 (u8s out).toArray := by rcases hr with hr | hr <;> exact hr.setRowSame _
  refine ⟨hnew, below_setRow (Below.refl _ _) hb _, fun k hk => ?_⟩
  by_cases e : k = g
  · subst e
    rcases hr with hr | hr
    · exact .inr ⟨hr, hnew⟩
    · exact .inl (hnew.trans hr.symm)
  · exact .inl (setRow_other w g k _ e)

/-- A slice of the five parts of a way's key, each of the call's own. -/
def FiveAt (B k s e C V : Nat) (v : Value) (w : World) : Prop := ∃ g A1 c1 A2 c2 A3 c3 A4 c4 A5 c5, v = .slice (some ⟨g, 0, none⟩) 5 5 ∧ Row w g 22 #[.slice A1 1 c1, .slice A2 4 c2, .slice A3 4 c3, .slice A4 8 c4, .slice A5 8 c5] ∧
  OwnB w B (.slice A1 1 c1) (be 1 k) ∧ OwnB w B (.slice A2 4 c2) (be 4 s) ∧ OwnB w B (.slice A3 4 c3) (be 4 e) ∧ OwnB w B (.slice A4 8 c4) (be 8 C) ∧ OwnB w B (.slice A5 8 c5) (be 8 V)
variable {k s e C V : Nat} {v : Value}
theorem FiveAt.keep (h : FiveAt B k s e C V v w) (hg : GrowsK B out w w') : FiveAt B k s e C V v w' := by
  obtain ⟨g, A1, c1, A2, c2, A3, c3, A4, c4, A5, c5, e0, hr, h1, h2, h3, h4, h5⟩ := h
  exact ⟨g, A1, c1, A2, c2, A3, c3, A4, c4, A5, c5, e0, hg.row hr (by decide), hg.own h1, hg.own h2, hg.own h3, hg.own h4, hg.own h5⟩
theorem FiveAt.new {A1 A2 A3 A4 A5 : Option Addr} {c1 c2 c3 c4 c5 : Nat} (h1 : OwnB w B (.slice A1 1 c1) (be 1 k)) (h2 : OwnB w B (.slice A2 4 c2) (be 4 s)) (h3 : OwnB w B (.slice A3 4 c3) (be 4 e)) (h4 : OwnB w B (.slice A4 8 c4) (be 8 C)) (h5 : OwnB w B (.slice A5 8 c5) (be 8 V)) :
    FiveAt B k s e C V (.slice (some ⟨w.heap.size, 0, none⟩) 5 5) (w.alloc (.cells #[.slice A1 1 c1, .slice A2 4 c2, .slice A3 4 c3, .slice A4 8 c4, .slice A5 8 c5] 22)) :=
  ⟨_, A1, c1, A2, c2, A3, c3, A4, c4, A5, c5, rfl, Row.new w _ _, h1.alloc _, h2.alloc _, h3.alloc _, h4.alloc _, h5.alloc _⟩
theorem FiveAt.parts (h : FiveAt B k s e C V v w) : ∃ g, v = .slice (some ⟨g, 0, none⟩) 5 5 ∧ PartsIn w w.heap.size (some ⟨g, 0, none⟩) 5 (wayParts k s e C V) := by
  obtain ⟨g, A1, c1, A2, c2, A3, c3, A4, c4, A5, c5, e0, hr, h1, h2, h3, h4, h5⟩ := h
  exact ⟨g, e0, partsIn_of (ValsIn.of_row (xs := [.slice A1 1 c1, .slice A2 4 c2, .slice A3 4 c3, .slice A4 8 c4, .slice A5 8 c5]) hr hr.lt) ⟨h1.slice, h2.slice, h3.slice, h4.slice, h5.slice, trivial⟩⟩
theorem ownB_one (w : World) (B : Nat) (k : Nat) (hB : B ≤ w.heap.size) : OwnB (w.alloc (.cells #[.int .u8 (n8 (UInt8.ofNat k))] 5)) B (.slice (some ⟨w.heap.size, 0, none⟩) 1 1) (be 1 k) :=
  World.ownsRow_lit w #[.int .u8 (n8 (UInt8.ofNat k))] 1 hB (by decide) rfl
end

section
variable {P : Program}
/-- A drawn region, whole. -/
theorem wp_region_relK {id : Nat} {Q : Exit → Act → World → Prop} {a : Act} {w : World} {l : List Oper} (B : Nat) (out : List UInt8) (all : List (Nat × Option Tmp)) (hm : P.follows .mixedOrders = true) (hB : relB .any l.toArray (Array.replicate l.toArray.size false) all [] = true) (hf : all.length = l.toArray.size)
    (h : relWalkV P .any l.toArray (GrowsK B out) (GrowsK B out w) Q [] a all all []) : (Code.region id l.toArray true).wp P Q a w :=
  wp_region_any hm (wpAny_relV all [] [] (GrowsK B out) (GrowsK B out w) rfl hB (by simpa using hf) (fun _ _ h1 h2 => h1.trans h2) (GrowsK.drew w) h)
end
end Go.Proofs.YtgejndannlfhkaaDoor
