/- What an element of a net may be, plainly. No program, no condition. -/
import Derived.Test.YtfnbohpfcdddgaaMod
namespace Go.Proofs.Ytfnbohpfcdddgaa

/-- An element, its Value by its bits. -/
structure El where
  kind : Nat
  name : ByteArray
  a : ByteArray
  b : ByteArray
  c : ByteArray
  d : ByteArray
  v : Nat
  ph : Int

def elC (e : El) : List Value := [.int .u8 e.kind, .string e.name, .string e.a, .string e.b, .string e.c, .string e.d, .float .f64 e.v, .int .i64 e.ph]
def elV (e : El) : Value := .agg (elC e).toArray

def okK (k : Nat) : Bool := decide (1 ≤ k) && decide (k ≤ 8)
def letK (k : Nat) : Nat := match k with
  | 1 => 82 | 2 => 76 | 3 => 67 | 4 => 73 | 5 => 86 | 6 => 71 | 7 => 69 | 8 => 80 | _ => 0
def unitK (k : Nat) : ByteArray := match k with
  | 1 => ⟨#[111, 104, 109]⟩ | 2 => ⟨#[104, 101, 110, 114, 121]⟩ | 3 => ⟨#[102, 97, 114, 97, 100]⟩ | 4 => ⟨#[97, 109, 112, 101, 114, 101]⟩ | 5 => ⟨#[118, 111, 108, 116]⟩
  | 6 => ⟨#[115, 105, 101, 109, 101, 110, 115]⟩ | 8 => ⟨#[111, 104, 109]⟩ | _ => ⟨#[]⟩
def abK (k : Nat) : Bool := k == 1 || k == 2 || k == 3 || k == 8
def fourK (k : Nat) : Bool := k == 6 || k == 7
def phK (k : Nat) : Bool := k == 4 || k == 5
/-- The kind of a letter. -/
def ofL (l : Nat) : Nat := match l with
  | 82 => 1 | 76 => 2 | 67 => 3 | 73 => 4 | 86 => 5 | 71 => 6 | 69 => 7 | 80 => 8 | _ => 0

/-- A small letter, a digit, _. -/
def smB (c : Nat) : Bool := decide (97 ≤ c) && decide (c ≤ 122) || decide (48 ≤ c) && decide (c ≤ 57) || c == 95
def byteAt (s : ByteArray) (i : Nat) : Nat := (s.data.toList.getD i 0).toNat
def smS (s : ByteArray) : Bool := s.data.toList.all fun c => smB c.toNat
def nodeS (s : ByteArray) : Bool := decide (0 < s.size) && decide (s.size ≤ 16) && smS s
/-- Is what stands behind the first byte small? -/
def tailS (s : ByteArray) : Bool := (s.data.toList.drop 1).all fun c => smB c.toNat
def lenS (s : ByteArray) : Bool := decide (2 ≤ s.size) && decide (s.size ≤ 16) && tailS s
/-- The kind of which a text is a name; 0: of none. -/
def nameK (s : ByteArray) : Nat := if lenS s = true then ofL (byteAt s 0) else 0
/-- The kind of a real: 0 nought, 1 below the least normal one, 2 normal, 3 infinite, 4 NaN. -/
def kindF (b : Nat) : Int :=
  if (b / 4503599627370496) % 2048 = 0 then (if b % 4503599627370496 = 0 then 0 else 1)
  else if (b / 4503599627370496) % 2048 < 2047 then 2 else if b % 4503599627370496 = 0 then 3 else 4
/-- Names and nodes are as they must be. -/
def namedE (e : El) : Bool := decide (nameK e.name = e.kind) && nodeS e.a && nodeS e.b && (!fourK e.kind || nodeS e.c && nodeS e.d)
def argE (e : El) : Bool := (e.a.toList == e.b.toList) || !fourK e.kind && ((e.c.toList != []) || (e.d.toList != [])) || !phK e.kind && (e.ph != 0)
def checkE (e : El) : Int :=
  if okK e.kind = true then
    if namedE e = true then
      if argE e = true then 2
      else if 2 < kindF e.v then 5
      else if (abK e.kind && fle (val e.v) (val 0)) = true then 2 else 0
    else 8
  else 2
end Go.Proofs.Ytfnbohpfcdddgaa

