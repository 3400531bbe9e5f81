/- SHA-256 as plain functions on lists of 32-bit words and bytes, step by step as the program goes. No condition. -/
import Derived.Test.YtgejndannlfhkaaDoorBase
namespace Go.Proofs.YtgejndannlfhkaaDoor

def turnW (n : W32) (x y z : Nat) : W32 := n.rotateRight x ^^^ n.rotateRight y ^^^ n.rotateRight z
def slideW (n : W32) (x y z : Nat) : W32 := n.rotateRight x ^^^ n.rotateRight y ^^^ n >>> z

/-- A byte as a word. -/
def w8 (c : UInt8) : W32 := BitVec.ofNat 32 c.toNat

/-- A word that takes one byte more. -/
def push8 (w : W32) (c : UInt8) : W32 := w <<< 8 ||| w8 c

/-- The word of the first k of four bytes, from a place on. -/
def wordTo (b : List UInt8) (t : Nat) : Nat → W32
  | 0 => 0
  | k + 1 => push8 (wordTo b t k) (b.getD (4 * t + k) 0)
def word (b : List UInt8) (t : Nat) : W32 := wordTo b t 4

def nextW (w : List W32) (t : Nat) : W32 :=
  w.getD (t - 16) 0 + w.getD (t - 7) 0 + slideW (w.getD (t - 15) 0) 7 18 3 + slideW (w.getD (t - 2) 0) 17 19 10

/-- A block's words, the first t of them done. -/
def schedTo (b : List UInt8) : Nat → List W32
  | 0 => List.replicate 64 0
  | t + 1 => (schedTo b t).set t (if t < 16 then word b t else nextW (schedTo b t) t)

theorem schedTo_length (b : List UInt8) : ∀ t, (schedTo b t).length = 64
  | 0 => by simp [schedTo]
  | t + 1 => by simp [schedTo, schedTo_length b t]

theorem schedTo_zero (b : List UInt8) : ∀ t i, t ≤ i → (schedTo b t).getD i 0 = 0
  | 0, i, _ => by simp only [schedTo, List.getD, List.getElem?_replicate]; split <;> rfl
  | t + 1, i, h => by
    have h1 : t ≠ i := by omega
    simp only [schedTo, List.getD, List.getElem?_set_ne h1]
    exact schedTo_zero b t i (by omega)
theorem set_same (l : List W32) (i : Nat) (h : l.getD i 0 = 0) : l.set i 0 = l := by
  apply List.ext_getElem?
  intro j
  by_cases e : i = j
  · subst e
    rw [List.getElem?_set_self']
    simp only [List.getD] at h
    cases hl : l[i]? with
    | none => simp
    | some x => simp [hl] at h; simp [h]
  · rw [List.getElem?_set_ne e]
def words (l : List W32) : Array Value := (l.map fun x => Value.int .u32 (n32 x)).toArray
theorem words_size (l : List W32) : (words l).size = l.length := by simp [words]
theorem words_get (l : List W32) (i : Nat) (h : i < l.length) : (words l)[i]? = some (.int .u32 (n32 (l.getD i 0))) := by
  simp [words, h, List.getD]
theorem words_set (l : List W32) (i : Nat) (x : W32) : (words l).setIfInBounds i (.int .u32 (n32 x)) = words (l.set i x) := by
  simp [words, List.map_set]

structure S8 where
  a : W32
  b : W32
  c : W32
  d : W32
  e : W32
  f : W32
  g : W32
  h : W32

def S8.list (s : S8) : List W32 := [s.a, s.b, s.c, s.d, s.e, s.f, s.g, s.h]

/-- One of the 64 rounds: k the constant, w the word. -/
def S8.round (s : S8) (k w : W32) : S8 :=
  let one := s.h + turnW s.e 6 11 25 + (s.e &&& s.f ^^^ (~~~s.e) &&& s.g) + k + w
  let two := turnW s.a 2 13 22 + (s.a &&& s.b ^^^ s.a &&& s.c ^^^ s.b &&& s.c)
  { a := one + two, b := s.a, c := s.b, d := s.c, e := s.d + one, f := s.e, g := s.f, h := s.g }

def S8.add (s t : S8) : S8 := ⟨s.a + t.a, s.b + t.b, s.c + t.c, s.d + t.d, s.e + t.e, s.f + t.f, s.g + t.g, s.h + t.h⟩

def kList : List W32 := [
  0x428a2f98, 0x71374491, 0xb5c0fbcf, 0xe9b5dba5, 0x3956c25b, 0x59f111f1, 0x923f82a4, 0xab1c5ed5,
  0xd807aa98, 0x12835b01, 0x243185be, 0x550c7dc3, 0x72be5d74, 0x80deb1fe, 0x9bdc06a7, 0xc19bf174,
  0xe49b69c1, 0xefbe4786, 0x0fc19dc6, 0x240ca1cc, 0x2de92c6f, 0x4a7484aa, 0x5cb0a9dc, 0x76f988da,
  0x983e5152, 0xa831c66d, 0xb00327c8, 0xbf597fc7, 0xc6e00bf3, 0xd5a79147, 0x06ca6351, 0x14292967,
  0x27b70a85, 0x2e1b2138, 0x4d2c6dfc, 0x53380d13, 0x650a7354, 0x766a0abb, 0x81c2c92e, 0x92722c85,
  0xa2bfe8a1, 0xa81a664b, 0xc24b8b70, 0xc76c51a3, 0xd192e819, 0xd6990624, 0xf40e3585, 0x106aa070,
  0x19a4c116, 0x1e376c08, 0x2748774c, 0x34b0bcb5, 0x391c0cb3, 0x4ed8aa4a, 0x5b9cca4f, 0x682e6ff3,
  0x748f82ee, 0x78a5636f, 0x84c87814, 0x8cc70208, 0x90befffa, 0xa4506ceb, 0xbef9a3f7, 0xc67178f2]

def start : S8 := ⟨0x6a09e667, 0xbb67ae85, 0x3c6ef372, 0xa54ff53a, 0x510e527f, 0x9b05688c, 0x1f83d9ab, 0x5be0cd19⟩

/-- The first t rounds. -/
def S8.rounds (s : S8) (ws : List W32) : Nat → S8
  | 0 => s
  | t + 1 => (s.rounds ws t).round (kList.getD t 0) (ws.getD t 0)

/-- The first t words added. -/
def addTo (l x : List W32) : Nat → List W32
  | 0 => l
  | t + 1 => (addTo l x t).set t ((addTo l x t).getD t 0 + x.getD t 0)
theorem addTo_length (l x : List W32) : ∀ t, (addTo l x t).length = l.length
  | 0 => rfl
  | t + 1 => by rw [addTo, List.length_set]; exact addTo_length l x t
theorem addTo_all (s x : S8) : addTo s.list x.list 8 = (s.add x).list := rfl

/-- A block taken in. -/
def S8.take (s : S8) (b : List UInt8) : S8 := s.add (s.rounds (schedTo b 64) 64)



/-- How many bytes 0 stand behind the 128. -/
def padLen (n : Nat) : Nat := (120 - (n + 1) % 64) % 64
/-- The first k of the eight bytes of a number. -/
def eightTo (many : BitVec 64) : Nat → List UInt8
  | 0 => []
  | k + 1 => eightTo many k ++ [UInt8.ofNat (many.toNat >>> (56 - 8 * k))]
theorem eightTo_length (many : BitVec 64) : ∀ k, (eightTo many k).length = k
  | 0 => rfl
  | k + 1 => by rw [eightTo, List.length_append, eightTo_length many k]; rfl
def padded (l : List UInt8) : List UInt8 := l ++ [128] ++ List.replicate (padLen l.length) 0 ++ eightTo (BitVec.ofNat 64 (l.length * 8)) 8
theorem padded_length (l : List UInt8) : (padded l).length = l.length + 9 + padLen l.length := by
  simp only [padded, List.length_append, List.length_replicate, eightTo_length, List.length_cons, List.length_nil]; omega
theorem padded_blocks (l : List UInt8) : (padded l).length = 64 * ((padded l).length / 64) := by
  rw [padded_length]; unfold padLen; omega
/-- Block number k. -/
def chunk (l : List UInt8) (k : Nat) : List UInt8 := (l.drop (64 * k)).take 64
/-- The state behind the first k blocks. -/
def stateTo (l : List UInt8) : Nat → S8
  | 0 => start
  | k + 1 => (stateTo l k).take (chunk l k)
theorem stateTo_fold (l : List UInt8) : ∀ k, (List.range k).foldl (fun s x => s.take (chunk l x)) start = stateTo l k
  | 0 => rfl
  | k + 1 => by rw [List.range_succ, List.foldl_append, stateTo_fold l k]; rfl
/-- The state behind blocks of these numbers. -/
def stateOver (l : List UInt8) {m : Nat} (pre : List (Fin m)) : S8 := pre.foldl (fun s x => S8.take s (chunk l x.1)) start
theorem stateOver_snoc (l : List UInt8) {m : Nat} (pre : List (Fin m)) (x : Fin m) : stateOver l (pre ++ [x]) = (stateOver l pre).take (chunk l x.1) := by
  rw [stateOver, List.foldl_append]; rfl
theorem stateOver_all (l : List UInt8) {m : Nat} (pre : List (Fin m)) (h : pre.map (·.1) = List.range m) : stateOver l pre = stateTo l m := by
  rw [← stateTo_fold, ← h, List.foldl_map]; rfl
theorem chunk_getD (l : List UInt8) (k i : Nat) (hi : i < 64) : (chunk l k).getD i 0 = l.getD (64 * k + i) 0 := by
  simp [chunk, List.getD, List.getElem?_drop, hi]
/-- The first k bytes of the hash. -/
def digestTo (s : List W32) : Nat → List UInt8
  | 0 => List.replicate 32 0
  | k + 1 => (digestTo s k).set k (UInt8.ofNat ((s.getD (k / 4) 0).toNat >>> (24 - k % 4 * 8)))
theorem digestTo_length (s : List W32) : ∀ k, (digestTo s k).length = 32
  | 0 => by simp [digestTo]
  | k + 1 => by rw [digestTo, List.length_set]; exact digestTo_length s k
/-- SHA-256. -/
def sha (l : List UInt8) : List UInt8 := digestTo (stateTo (padded l) ((padded l).length / 64)).list 32
theorem sha_length (l : List UInt8) : (sha l).length = 32 := digestTo_length _ _

end Go.Proofs.YtgejndannlfhkaaDoor
