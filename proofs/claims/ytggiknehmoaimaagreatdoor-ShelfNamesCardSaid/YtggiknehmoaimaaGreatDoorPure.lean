/-
  Plain definitions: hashes, the reading of numbers, texts, operations and transactions out of bytes, SHA-256. No program in sight.
-/
import Derived.WalkKit
namespace Go.X

abbrev Bytes := List UInt8
/-- 32 bytes. -/
def Hash := { l : Bytes // l.length = 32 }
instance : DecidableEq Hash := inferInstanceAs (DecidableEq { l : Bytes // l.length = 32 })
def Hash.zero : Hash := ⟨List.replicate 32 0, rfl⟩

/-- How two rows of bytes stand: -1, 0, 1. -/
def cmpF : Bytes → Bytes → Int
  | [], [] => 0
  | [], _ => -1
  | _, [] => 1
  | a :: l, b :: m => if a < b then -1 else if b < a then 1 else cmpF l m

/-! ### reading: what is wrong, and where; or what was read, and how far -/
structure BadD where
  why : Nat
  at_ : Nat
abbrev Rd (α : Type) := Except BadD (α × Nat)

/-- A number from the beginning of bytes, byte number i: what it is, how many bytes it has. -/
def numF (i x : Nat) : Bytes → Except Nat (Nat × Nat)
  | [] => .error 20
  | c :: r => if i = 9 ∧ 1 < c then .error 22 else
    if c < 128 then (if c = 0 ∧ 0 < i then .error 21 else .ok (x + (c.toNat % 128) * 2 ^ (7 * i), i + 1))
    else if i = 9 then .error 22 else numF (i + 1) (x + (c.toNat % 128) * 2 ^ (7 * i)) r

def rdByte (l : Bytes) (p : Nat) : Rd UInt8 := match l[p]? with
  | some c => .ok (c, p + 1)
  | none => .error ⟨20, p⟩
def rdNumber (l : Bytes) (p most : Nat) : Rd Nat := match numF 0 0 (l.drop p) with
  | .error w => .error ⟨w, p⟩
  | .ok (x, n) => if most < x then .error ⟨22, p⟩ else .ok (x, p + n)
def rdRaw (l : Bytes) (p n : Nat) : Rd Bytes := if p + n ≤ l.length then .ok ((l.drop p).take n, p + n) else .error ⟨20, p⟩
def rdHash (l : Bytes) (p : Nat) : Rd Hash := if h : p + 32 ≤ l.length then .ok (⟨(l.drop p).take 32, by simp; omega⟩, p + 32) else .error ⟨20, p⟩
def rdBytes (l : Bytes) (p most : Nat) : Rd Bytes := match rdNumber l p most with
  | .error e => .error e
  | .ok (n, q) => rdRaw l q n
/-- The signed number of a number's form. -/
def zag (n : Nat) : Int := if n % 2 = 0 then (n / 2 : Nat) else -((n / 2 : Nat) : Int) - 1
def rdSigned (l : Bytes) (p : Nat) : Rd Int := match rdNumber l p (2 ^ 64 - 1) with
  | .error e => .error e
  | .ok (n, q) => .ok (zag n, q)

structure OpD where
  kind : Nat
  key : Bytes
  text : Bytes
  n : Int
  node : Hash
  op : Nat
def hasText (k : Nat) : Bool := k == 1 || k == 3 || k == 4 || k == 8
def hasAt (k : Nat) : Bool := k == 8 || k == 9
/-- May the At of an operation behind others be? -/
def rightF (l : List OpD) (o : OpD) : Bool :=
  if o.node = Hash.zero then
    if o.op = 0 then o.kind == 8 else match l[o.op - 1]? with
      | some x => x.kind == 8 && x.key == o.key
      | none => false
  else decide (1 ≤ o.op ∧ o.op ≤ 1024)

def rdAt (l : Bytes) (p : Nat) : Rd (Nat × Hash) := match rdNumber l p 1024 with
  | .error e => .error e
  | .ok (0, q) => .ok ((0, Hash.zero), q)
  | .ok (n + 1, q) => match rdHash l q with
    | .error e => .error e
    | .ok (h, q) => .ok ((n + 1, h), q)
/-- The fields behind the key. -/
def rdFields (l : Bytes) (k : Nat) (key : Bytes) (prev : List OpD) (p : Nat) : Rd OpD :=
  match (if hasText k then rdBytes l p 65536 else .ok ([], p)) with
  | .error e => .error e
  | .ok (text, p) => match (if k = 6 then rdSigned l p else .ok (0, p)) with
    | .error e => .error e
    | .ok (n, p) => if hasAt k then
        match rdAt l p with
        | .error e => .error e
        | .ok ((op, node), q) => if rightF prev ⟨k, key, text, n, node, op⟩ then .ok (⟨k, key, text, n, node, op⟩, q) else .error ⟨42, p⟩
      else .ok (⟨k, key, text, n, Hash.zero, 0⟩, p)
def rdOp (l : Bytes) (prev : List OpD) (p : Nat) : Rd OpD := match rdByte l p with
  | .error e => .error e
  | .ok (k, q) => if k.toNat < 1 ∨ 9 < k.toNat then .error ⟨40, p⟩ else match rdBytes l q 65536 with
    | .error e => .error e
    | .ok (key, q) => rdFields l k.toNat key prev q
def rdOps (l : Bytes) : Nat → List OpD → Nat → Rd (List OpD)
  | 0, prev, p => .ok (prev, p)
  | n + 1, prev, p => match rdOp l prev p with
    | .error e => .error e
    | .ok (o, q) => rdOps l n (prev ++ [o]) q
def rdGet (l : Bytes) (p : Nat) : Rd (List OpD) := match rdNumber l p 1024 with
  | .error e => .error e
  | .ok (n, q) => rdOps l n [] q

structure NodeD where
  author : Nat
  clock : Nat
  parents : List Hash
  ops : List OpD
def rdParents (l : Bytes) : Nat → List Hash → Nat → Rd (List Hash)
  | 0, prev, p => .ok (prev, p)
  | n + 1, prev, p => match rdHash l p with
    | .error e => .error e
    | .ok (h, q) => if (match prev.getLast? with | some g => decide (0 ≤ cmpF g.1 h.1) | none => false) then .error ⟨52, p⟩ else rdParents l n (prev ++ [h]) q
def rdHead (l : Bytes) : Rd (Nat × Nat × List Hash) := match rdByte l 0 with
  | .error e => .error e
  | .ok (f, _) => if f ≠ 1 then .error ⟨5, 0⟩ else match rdByte l 1 with
    | .error e => .error e
    | .ok (a, _) => if a.toNat < 1 ∨ 8 < a.toNat then .error ⟨50, 1⟩ else match rdNumber l 2 4096 with
      | .error e => .error e
      | .ok (c, p) => if c = 0 then .error ⟨51, 2⟩ else match rdNumber l p 64 with
        | .error e => .error e
        | .ok (m, p) => if (c = 1) ≠ (m = 0) then .error ⟨51, 2⟩ else match rdParents l m [] p with
          | .error e => .error e
          | .ok (ps, p) => .ok ((a.toNat, c, ps), p)
/-- The transaction of a block, or what is wrong with it. -/
def decodeF (l : Bytes) : Except BadD NodeD :=
  if 1048576 < l.length then .error ⟨4, 1048576⟩ else match rdHead l with
  | .error e => .error e
  | .ok ((a, c, ps), p) => match rdGet l p with
    | .error e => .error e
    | .ok (ops, p) => if p < l.length then .error ⟨23, p⟩ else .ok ⟨a, c, ps, ops⟩

/-! ### SHA-256 -/
def rotr (x : UInt32) (n : UInt32) : UInt32 := x >>> n ||| x <<< (32 - n)
structure S8 where
  a : UInt32
  b : UInt32
  c : UInt32
  d : UInt32
  e : UInt32
  f : UInt32
  g : UInt32
  h : UInt32
def S8.list (s : S8) : List UInt32 := [s.a, s.b, s.c, s.d, s.e, s.f, s.g, s.h]
def S8.add (s t : S8) : S8 := ⟨s.a + t.a, s.b + t.b, s.c + t.c, s.d + t.d, s.e + t.e, s.f + t.f, s.g + t.g, s.h + t.h⟩
def beginsF : S8 := ⟨0x6a09e667, 0xbb67ae85, 0x3c6ef372, 0xa54ff53a, 0x510e527f, 0x9b05688c, 0x1f83d9ab, 0x5be0cd19⟩
def roundsF : List UInt32 := [
  0x428a2f98, 0x71374491, 0xb5c0fbcf, 0xe9b5dba5, 0x3956c25b, 0x59f111f1, 0x923f82a4, 0xab1c5ed5,
  0xd807aa98, 0x12835b01, 0x243185be, 0x550c7dc3, 0x72be5d74, 0x80deb1fe, 0x9bdc06a7, 0xc19bf174,
  0xe49b69c1, 0xefbe4786, 0x0fc19dc6, 0x240ca1cc, 0x2de92c6f, 0x4a7484aa, 0x5cb0a9dc, 0x76f988da,
  0x983e5152, 0xa831c66d, 0xb00327c8, 0xbf597fc7, 0xc6e00bf3, 0xd5a79147, 0x06ca6351, 0x14292967,
  0x27b70a85, 0x2e1b2138, 0x4d2c6dfc, 0x53380d13, 0x650a7354, 0x766a0abb, 0x81c2c92e, 0x92722c85,
  0xa2bfe8a1, 0xa81a664b, 0xc24b8b70, 0xc76c51a3, 0xd192e819, 0xd6990624, 0xf40e3585, 0x106aa070,
  0x19a4c116, 0x1e376c08, 0x2748774c, 0x34b0bcb5, 0x391c0cb3, 0x4ed8aa4a, 0x5b9cca4f, 0x682e6ff3,
  0x748f82ee, 0x78a5636f, 0x84c87814, 0x8cc70208, 0x90befffa, 0xa4506ceb, 0xbef9a3f7, 0xc67178f2]
def word (b : Bytes) (t : Nat) : UInt32 :=
  (b.getD (4 * t) 0).toUInt32 <<< 24 ||| (b.getD (4 * t + 1) 0).toUInt32 <<< 16 ||| (b.getD (4 * t + 2) 0).toUInt32 <<< 8 ||| (b.getD (4 * t + 3) 0).toUInt32
/-- The words of a piece, the first t of them. -/
def wordsF (b : Bytes) : Nat → List UInt32
  | 0 => []
  | t + 1 =>
    let w := wordsF b t
    w ++ [if t < 16 then word b t else
      let x := w.getD (t - 15) 0
      let y := w.getD (t - 2) 0
      w.getD (t - 16) 0 + (rotr x 7 ^^^ rotr x 18 ^^^ x >>> 3) + w.getD (t - 7) 0 + (rotr y 17 ^^^ rotr y 19 ^^^ y >>> 10)]
def roundF (k w : UInt32) (s : S8) : S8 :=
  let u := s.h + (rotr s.e 6 ^^^ rotr s.e 11 ^^^ rotr s.e 25) + (s.e &&& s.f ^^^ ~~~ s.e &&& s.g) + k + w
  let v := (rotr s.a 2 ^^^ rotr s.a 13 ^^^ rotr s.a 22) + (s.a &&& s.b ^^^ s.a &&& s.c ^^^ s.b &&& s.c)
  ⟨u + v, s.a, s.b, s.c, s.d + u, s.e, s.f, s.g⟩
/-- The first t rounds. -/
def turnsF (w : List UInt32) (s : S8) : Nat → S8
  | 0 => s
  | t + 1 => roundF (roundsF.getD t 0) (w.getD t 0) (turnsF w s t)
def pieceF (s : S8) (b : Bytes) : S8 := s.add (turnsF (wordsF b 64) s 64)
/-- So many pieces of bytes worked in. -/
def piecesF (s : S8) (b : Bytes) : Nat → S8
  | 0 => s
  | n + 1 => pieceF (piecesF s b n) ((b.drop (64 * n)).take 64)
def lenBytes (n : Nat) : Bytes := [56, 48, 40, 32, 24, 16, 8, 0].map fun i => UInt8.ofNat (8 * n / 2 ^ i)
def padLen (n : Nat) : Nat := (119 - n % 64) % 64
def tailF (n : Nat) : Bytes := 0x80 :: (List.replicate (padLen n) 0 ++ lenBytes n)
def outF (s : S8) : Bytes := s.list.flatMap fun x => [UInt8.ofNat (x.toNat / 2 ^ 24), UInt8.ofNat (x.toNat / 2 ^ 16), UInt8.ofNat (x.toNat / 2 ^ 8), UInt8.ofNat x.toNat]
def shaF (b : Bytes) : Hash := ⟨outF (piecesF beginsF (b ++ tailF b.length) ((b ++ tailF b.length).length / 64)), rfl⟩
end Go.X
