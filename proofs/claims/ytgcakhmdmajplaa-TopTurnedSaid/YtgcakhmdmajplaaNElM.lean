/- What an element of a net may be, plainly. No program, no condition. Maps from names to places: what the call's own map tells of the list of its keys. No condition. A net that is being made: its seven cells, its three rows, its three maps, no two in one block. No condition. -/
import Derived.Test.YtgcakhmdmajplaaFlM
import Derived.Test.YtgcakhmdmajplaaBaseM
import Derived.Maps.OwnSet
import Derived.Maps.AppendAt
import Derived.Maps.OwnOps
import Derived.StringKeys
import Derived.OneCell
namespace Go.Proofs.Ytgcakhmdmajplaa

/-- An element, its Value by its bits. -/
structure El where
  kind : Nat
  name : ByteArray
  a : ByteArray
  b : ByteArray
  c : ByteArray
  d : ByteArray
  v : Nat
  ph : Int

def elC (e : El) : List Value := [.int .u8 e.kind, .string e.name, .string e.a, .string e.b, .string e.c, .string e.d, .float .f64 e.v, .int .i64 e.ph]
def elV (e : El) : Value := .agg (elC e).toArray

def okK (k : Nat) : Bool := decide (1 ≤ k) && decide (k ≤ 8)
def letK (k : Nat) : Nat := match k with
  | 1 => 82 | 2 => 76 | 3 => 67 | 4 => 73 | 5 => 86 | 6 => 71 | 7 => 69 | 8 => 80 | _ => 0
def unitK (k : Nat) : ByteArray := match k with
  | 1 => ⟨#[111, 104, 109]⟩ | 2 => ⟨#[104, 101, 110, 114, 121]⟩ | 3 => ⟨#[102, 97, 114, 97, 100]⟩ | 4 => ⟨#[97, 109, 112, 101, 114, 101]⟩ | 5 => ⟨#[118, 111, 108, 116]⟩
  | 6 => ⟨#[115, 105, 101, 109, 101, 110, 115]⟩ | 8 => ⟨#[111, 104, 109]⟩ | _ => ⟨#[]⟩
def abK (k : Nat) : Bool := k == 1 || k == 2 || k == 3 || k == 8
def fourK (k : Nat) : Bool := k == 6 || k == 7
def phK (k : Nat) : Bool := k == 4 || k == 5
/-- The kind of a letter. -/
def ofL (l : Nat) : Nat := match l with
  | 82 => 1 | 76 => 2 | 67 => 3 | 73 => 4 | 86 => 5 | 71 => 6 | 69 => 7 | 80 => 8 | _ => 0

/-- A small letter, a digit, _. -/
def smB (c : Nat) : Bool := decide (97 ≤ c) && decide (c ≤ 122) || decide (48 ≤ c) && decide (c ≤ 57) || c == 95
def byteAt (s : ByteArray) (i : Nat) : Nat := (s.data.toList.getD i 0).toNat
def smS (s : ByteArray) : Bool := s.data.toList.all fun c => smB c.toNat
def nodeS (s : ByteArray) : Bool := decide (0 < s.size) && decide (s.size ≤ 16) && smS s
/-- Is what stands behind the first byte small? -/
def tailS (s : ByteArray) : Bool := (s.data.toList.drop 1).all fun c => smB c.toNat
def lenS (s : ByteArray) : Bool := decide (2 ≤ s.size) && decide (s.size ≤ 16) && tailS s
/-- The kind of which a text is a name; 0: of none. -/
def nameK (s : ByteArray) : Nat := if lenS s = true then ofL (byteAt s 0) else 0
/-- The kind of a real: 0 nought, 1 below the least normal one, 2 normal, 3 infinite, 4 NaN. -/
def kindF (b : Nat) : Int :=
  if (b / 4503599627370496) % 2048 = 0 then (if b % 4503599627370496 = 0 then 0 else 1)
  else if (b / 4503599627370496) % 2048 < 2047 then 2 else if b % 4503599627370496 = 0 then 3 else 4
/-- Names and nodes are as they must be. -/
def namedE (e : El) : Bool := decide (nameK e.name = e.kind) && nodeS e.a && nodeS e.b && (!fourK e.kind || nodeS e.c && nodeS e.d)
def argE (e : El) : Bool := (e.a.toList == e.b.toList) || !fourK e.kind && ((e.c.toList != []) || (e.d.toList != [])) || !phK e.kind && (e.ph != 0)
def checkE (e : El) : Int :=
  if okK e.kind = true then
    if namedE e = true then
      if argE e = true then 2
      else if 2 < kindF e.v then 5
      else if (abK e.kind && fle (val e.v) (val 0)) = true then 2 else 0
    else 8
  else 2
end Go.Proofs.Ytgcakhmdmajplaa

namespace Go.Proofs.Ytgcakhmdmajplaa
open Go.RowKit Go.Maps

def kS (s : ByteArray) : Lit := .string s.data.toList
theorem kS_inj {s t : ByteArray} (h : kS s = kS t) : s = t := by
  unfold kS at h
  injection h with h
  cases s; cases t
  simp only [ByteArray.mk.injEq]
  exact Array.toList_inj.1 h

/-- Is s one of ks? -/
def hasS (ks : List ByteArray) (s : ByteArray) : Bool := ks.any fun t => t.data.toList == s.data.toList
theorem bytes_inj {s t : ByteArray} (h : s.data.toList = t.data.toList) : s = t := by
  cases s; cases t
  simp only [ByteArray.mk.injEq]
  exact Array.toList_inj.1 h
theorem hasS_iff {ks : List ByteArray} {s : ByteArray} : hasS ks s = true ↔ s ∈ ks := by
  unfold hasS
  rw [List.any_eq_true]
  constructor
  · rintro ⟨t, h1, h2⟩
    have e : t = s := bytes_inj (by simpa using h2)
    rw [← e]
    exact h1
  · intro h
    exact ⟨s, h, by simp⟩
theorem hasS_snoc (ks : List ByteArray) (s t : ByteArray) : hasS (ks ++ [s]) t = (hasS ks t || (s.data.toList == t.data.toList)) := by simp [hasS]

/-- The map in block b tells the places of ks. -/
def MapN (w : World) (b : Nat) (ks : List ByteArray) : Prop :=
  ∃ D : DataW Unit, w.ownsMap Try.prog 9 (plainElem Try.prog 3) b ks.length D ∧ (∀ s, has D (kS s) = hasS ks s) ∧ ∀ (i : Nat) s, ks[i]? = some s → ∀ z, D.atKey (kS s) z = .lit (.int .i64 i)

theorem MapN.new (w : World) : MapN (w.alloc (.map #[] 0)) w.heap.size [] :=
  ⟨.map [], World.ownsMap_made w _ _ _, fun s => rfl, fun i s h => by simp at h⟩
theorem MapN.lt {w : World} {b : Nat} {ks : List ByteArray} (h : MapN w b ks) : b < w.heap.size := by
  obtain ⟨D, h, _⟩ := h
  exact h.lt
theorem MapN.kept {w w' : World} {b : Nat} {ks : List ByteArray} {row : Option Nat} (h : MapN w b ks) (hg : w.grownBy w' row) (hne : some b ≠ row) : MapN w' b ks := by
  obtain ⟨D, h1, h2⟩ := h
  exact ⟨D, h1.kept hg hne, h2⟩
theorem MapN.below {w w' : World} {b : Nat} {ks : List ByteArray} (h : MapN w b ks) (hb : Below w.heap.size w w') : MapN w' b ks :=
  h.kept ⟨hb.os, hb.tape, hb.output, hb.size, fun k hk _ => hb.block k hk⟩ (by simp : some b ≠ none)
theorem MapN.setCell {w : World} {b : Nat} {ks : List ByteArray} (h : MapN w b ks) {a : Addr} (ha : b ≠ a.block) (u : Value) : MapN (w.setCell a u) b ks := by
  obtain ⟨D, h1, h2⟩ := h
  exact ⟨D, h1.setCell ha u, h2⟩

theorem zeroI (w : World) : (zeroValue 3).run Try.prog w = .ok (.int .i64 0) w := by kernel_rfl
theorem lawS : Keyed Try.prog 9 := string_keyed Try.underlying9

set_option maxRecDepth 10000 in
/-- 'v, ok := m[k]', run. -/
theorem MapN.run {w : World} {b : Nat} {ks : List ByteArray} (h : MapN w b ks) {s : ByteArray} (hs : s.size ≤ maxLen) : ∃ c : Int, (Instr.lookup 57 (.map (some b)) (.string s) true).run Try.prog w = .ok (.tuple #[.int .i64 c, .bool (hasS ks s)]) w ∧ ∀ i : Nat, ks[i]? = some s → c = i := by
  obtain ⟨D, h1, h2, h3⟩ := h
  obtain ⟨v, ps, hrun, hv⟩ := h1.look_ok lawS Try.underlying57 (zeroI w) (plainElem_int Try.underlying3 (by decide)) (WideMaps.keyOf_string_mk Try.underlying9 hs)
  obtain ⟨c, rfl, hc, hwc⟩ := plainElem_int_inv Try.underlying3 hv
  refine ⟨c, ?_, ?_⟩
  · have h4 : has D (.string s.data.toList) = hasS ks s := h2 s
    rw [h4] at hrun
    exact hrun
  · intro i hi
    have : D.atKey (.string s.data.toList) (.lit (.int .i64 0)) = .lit (.int .i64 i) := h3 i s hi _
    have hc1 := congrArg Prod.fst hc
    simp only at hc1
    rw [this] at hc1
    injection hc1 with h
    injection h with _ h
    exact h.symm

/-- 'v, ok := m[k]'. -/
theorem wpList_look {w : World} {ops : Array Oper} {rest : List Oper} {o : Oper} {a : Act} {Q : Exit → Act → World → Prop} (hg : o.guard = none) (m x : Operand) (hop : o.op = Op.lookup 57 m x true)
    (b : Nat) (hm : a.eval m = .map (some b)) (ks : List ByteArray) (h : MapN w b ks) (s : ByteArray) (hx : a.eval x = .string s) (hs : s.size ≤ maxLen)
    (hK : ∀ c : Int, (∀ i : Nat, ks[i]? = some s → c = i) → wpList Try.prog ops Q rest (a.put o.dst (.tuple #[.int .i64 c, .bool (hasS ks s)])) w) :
    wpList Try.prog ops Q (o :: rest) a w := by
  obtain ⟨D, h1, h2, h3⟩ := h
  refine wpList_lookup_own_ok_int w hg m x _ hop 9 3 .i64 lawS Try.underlying57 Try.underlying3 (zeroI _) b _ D hm h1 _ (kS s) hx (WideMaps.keyOf_string_mk Try.underlying9 hs) ?_
  intro c hat _
  rw [h2]
  refine hK c ?_
  intro i hi
  rw [h3 i s hi] at hat
  injection hat with h
  injection h with _ h
  exact h.symm

/-- 'm[k] = len(..)'. -/
theorem wpList_upd {w : World} {ops : Array Oper} {rest : List Oper} {o : Oper} {a : Act} {Q : Exit → Act → World → Prop} (hg : o.guard = none) (hd : o.dst = none) (m x v : Operand) (hop : o.op = Op.mapUpdate 57 m x v)
    (b : Nat) (hm : a.eval m = .map (some b)) (ks : List ByteArray) (h : MapN w b ks) (hn : ks.length ≤ 100000) (s : ByteArray) (hx : a.eval x = .string s) (hs : s.size ≤ maxLen) (hv : a.eval v = .int .i64 ks.length) (hne : s ∉ ks)
    (hK : ∀ w', MapN w' b (ks ++ [s]) → w.grownBy w' (some b) → wpList Try.prog ops Q rest a w') :
    wpList Try.prog ops Q (o :: rest) a w := by
  obtain ⟨D, h1, h2, h3⟩ := h
  refine wpList_mapUpdate_own w hg m x v _ hop 9 3 lawS Try.underlying57 _ b _ D hm h1 (by unfold maxLen; omega) _ _ (kS s) hx hv (WideMaps.keyOf_string_mk Try.underlying9 hs) (.lit (.int .i64 ks.length)) [] (plainElem_int Try.underlying3 (by simp [Lit.wf, IntKind.min, IntKind.max, IntKind.signed, IntKind.bits]; omega)) ?_
  intro w' r1 r2
  rw [hd]
  refine hK w' ⟨_, by simpa using r1, ?_, ?_⟩ r2
  · intro t
    by_cases ht : t = s
    · subst ht
      rw [has_put_same h1.isMap (by trivial), hasS_snoc]
      simp
    · rw [has_put_other (fun e => ht (kS_inj e)), h2, hasS_snoc]
      have : (s.data.toList == t.data.toList) = false := by
        simp only [beq_eq_false_iff_ne, ne_eq]
        exact fun e => ht (bytes_inj e).symm
      rw [this, Bool.or_false]
  · intro i t hi z
    by_cases hl : i < ks.length
    · rw [List.getElem?_append_left hl] at hi
      have : t ≠ s := fun e => hne (e ▸ List.mem_of_getElem? hi)
      rw [atKey_put_other (fun e => this (kS_inj e)), h3 i t hi]
    · rw [List.getElem?_append_right (by omega)] at hi
      obtain rfl : i = ks.length := by
        have := (List.getElem?_eq_some_iff.1 hi).1
        simp at this
        omega
      simp at hi
      subst hi
      rw [atKey_put_same h1.isMap (by trivial)]
end Go.Proofs.Ytgcakhmdmajplaa

namespace Go.Proofs.Ytgcakhmdmajplaa
open Go.RowKit Go.Maps

structure NetS where
  l : List El
  nodes : List ByteArray
  br : List ByteArray
def nmL (l : List El) : List ByteArray := l.map (·.name)
def newNode (ns : List ByteArray) (x : ByteArray) : Bool := !hasS ns x && (x.toList != []) && (x.toList != [48])
def putNode (ns : List ByteArray) (x : ByteArray) : List ByteArray := if newNode ns x = true then ns ++ [x] else ns
def fourE (e : El) : List ByteArray := [e.a, e.b, e.c, e.d]
def brK (k : Nat) : Bool := k == 5 || k == 7
def putN (s : NetS) (e : El) : NetS := ⟨s.l ++ [e], (fourE e).foldl putNode s.nodes, if brK e.kind = true then s.br ++ [e.name] else s.br⟩
def netG : NetS → Nat → List El → (Int × Int) ⊕ NetS
  | s, _, [] => .inr s
  | s, i, e :: r => if checkE e = 0 then (if hasS (nmL s.l) e.name = true then .inl (9, (i : Int)) else netG (putN s e) (i + 1) r) else .inl (checkE e, (i : Int))
def net0 : NetS := ⟨[], [], []⟩
/-- What netlist.Of tells: the fault, the net. -/
def netF (l : List El) : (Int × Int) × Option NetS :=
  if 256 < l.length then ((3, -1), none) else
  match netG net0 0 l with
  | .inl f => (f, none)
  | .inr s => if 32 < s.nodes.length ∨ 64 < s.nodes.length + s.br.length then ((3, -1), none) else ((0, 0), some s)

theorem putNode_len (ns : List ByteArray) (x : ByteArray) : (putNode ns x).length ≤ ns.length + 1 := by
  unfold putNode
  split <;> simp
theorem putN_nodes (s : NetS) (e : El) : (putN s e).nodes.length ≤ s.nodes.length + 4 := by
  show (putNode (putNode (putNode (putNode s.nodes e.a) e.b) e.c) e.d).length ≤ _
  have h1 := putNode_len s.nodes e.a
  have h2 := putNode_len (putNode s.nodes e.a) e.b
  have h3 := putNode_len (putNode (putNode s.nodes e.a) e.b) e.c
  have h4 := putNode_len (putNode (putNode (putNode s.nodes e.a) e.b) e.c) e.d
  omega

structure NB where
  n : Nat
  nm : Nat
  pm : Nat
  bm : Nat
structure NV where
  l : Value
  n : Value
  b : Value
def netC (N : NB) (V : NV) : Array Value := #[.bool true, V.l, .map (some N.nm), V.n, .map (some N.pm), V.b, .map (some N.bm)]
def strL (ns : List ByteArray) : List Value := ns.map .string
def cellsL (l : List El) : List Value := l.flatMap elC
theorem cellsL_snoc (l : List El) (e : El) : cellsL (l ++ [e]) = cellsL l ++ elC e := by simp [cellsL]
theorem strL_snoc (l : List ByteArray) (e : ByteArray) : strL (l ++ [e]) = strL l ++ [.string e] := by simp [strL]
theorem cellsL_len (l : List El) : (cellsL l).length = l.length * 8 := by
  induction l with
  | nil => rfl
  | cons e r ih =>
    show (elC e ++ cellsL r).length = _
    rw [List.length_append, ih, List.length_cons, show (elC e).length = 8 from rfl]
    omega
/-- No two in one block. -/
structure Apart (N : NB) (V : NV) : Prop where
  nn : N.n ≠ N.nm
  np : N.n ≠ N.pm
  nb : N.n ≠ N.bm
  mp : N.nm ≠ N.pm
  mb : N.nm ≠ N.bm
  pb : N.pm ≠ N.bm
  l1 : V.l.ownBlock ≠ some N.n
  l2 : V.l.ownBlock ≠ some N.nm
  l3 : V.l.ownBlock ≠ some N.pm
  l4 : V.l.ownBlock ≠ some N.bm
  n1 : V.n.ownBlock ≠ some N.n
  n2 : V.n.ownBlock ≠ some N.nm
  n3 : V.n.ownBlock ≠ some N.pm
  n4 : V.n.ownBlock ≠ some N.bm
  b1 : V.b.ownBlock ≠ some N.n
  b2 : V.b.ownBlock ≠ some N.nm
  b3 : V.b.ownBlock ≠ some N.pm
  b4 : V.b.ownBlock ≠ some N.bm
  ln : V.l.ownBlock = none ∨ V.l.ownBlock ≠ V.n.ownBlock
  lb : V.l.ownBlock = none ∨ V.l.ownBlock ≠ V.b.ownBlock
  bn : V.b.ownBlock = none ∨ V.b.ownBlock ≠ V.n.ownBlock
/-- Block o is none of them. -/
structure OutN (N : NB) (V : NV) (o : Nat) : Prop where
  n : o ≠ N.n
  m : o ≠ N.nm
  p : o ≠ N.pm
  b : o ≠ N.bm
  vl : V.l.ownBlock ≠ some o
  vn : V.n.ownBlock ≠ some o
  vb : V.b.ownBlock ≠ some o
structure NetR (w : World) (B : Nat) (N : NB) (V : NV) (l : List El) (nodes br ks ps bs : List ByteArray) : Prop where
  blk : w.heap[N.n]? = some (.cells (netC N V) 59 (0, 0))
  L : w.ownsRow B 54 8 V.l l.length (cellsL l)
  R : w.ownsRow B 9 1 V.n nodes.length (strL nodes)
  Q : w.ownsRow B 9 1 V.b br.length (strL br)
  KN : MapN w N.nm ks
  KP : MapN w N.pm ps
  KB : MapN w N.bm bs
  ap : Apart N V
  gn : B ≤ N.n
  gm : B ≤ N.nm
  gp : B ≤ N.pm
  gb : B ≤ N.bm

section
variable {w w' : World} {B : Nat} {N : NB} {V : NV} {l : List El} {nodes br ks ps bs : List ByteArray}
theorem NetR.ltn (h : NetR w B N V l nodes br ks ps bs) : N.n < w.heap.size := (Array.getElem?_eq_some_iff.1 h.blk).1
/-- Whatever turns none of the blocks. -/
theorem NetR.grown (h : NetR w B N V l nodes br ks ps bs) {row : Option Nat} (hg : w.grownBy w' row) (h1 : some N.n ≠ row) (h2 : some N.nm ≠ row) (h3 : some N.pm ≠ row) (h4 : some N.bm ≠ row) (h5 : V.l.ownBlock = none ∨ V.l.ownBlock ≠ row) (h6 : V.n.ownBlock = none ∨ V.n.ownBlock ≠ row) (h7 : V.b.ownBlock = none ∨ V.b.ownBlock ≠ row) : NetR w' B N V l nodes br ks ps bs :=
  { h with
    blk := by rw [hg.block _ h.ltn h1]; exact h.blk
    L := h.L.kept hg h5
    R := h.R.kept hg h6
    Q := h.Q.kept hg h7
    KN := h.KN.kept hg h2
    KP := h.KP.kept hg h3
    KB := h.KB.kept hg h4 }
theorem grown_of_below (hb : Below w.heap.size w w') : w.grownBy w' none := ⟨hb.os, hb.tape, hb.output, hb.size, fun k hk _ => hb.block k hk⟩
theorem own_none (v : Value) : v.ownBlock = none ∨ v.ownBlock ≠ none := by cases v.ownBlock <;> simp
theorem NetR.below (h : NetR w B N V l nodes br ks ps bs) (hb : Below w.heap.size w w') : NetR w' B N V l nodes br ks ps bs :=
  h.grown (grown_of_below hb) (by simp) (by simp) (by simp) (by simp) (own_none _) (own_none _) (own_none _)
theorem NetR.alloc (h : NetR w B N V l nodes br ks ps bs) (o : Obj) : NetR (w.alloc o) B N V l nodes br ks ps bs :=
  h.below ((Below.refl _ w).alloc (Nat.le_refl _) o)
theorem NetR.cells (h : NetR w B N V l nodes br ks ps bs) : w.cell? ⟨N.n, 0, none⟩ = some (.bool true) ∧ w.cell? ⟨N.n, 1, none⟩ = some V.l ∧ w.cell? ⟨N.n, 2, none⟩ = some (.map (some N.nm)) ∧ w.cell? ⟨N.n, 3, none⟩ = some V.n ∧ w.cell? ⟨N.n, 4, none⟩ = some (.map (some N.pm)) ∧ w.cell? ⟨N.n, 5, none⟩ = some V.b ∧ w.cell? ⟨N.n, 6, none⟩ = some (.map (some N.bm)) := by
  have := h.blk
  simp [World.cell?, this, netC]
theorem NetR.frozen (h : NetR w B N V l nodes br ks ps bs) (j : Nat) : w.frozen? ⟨N.n, j, none⟩ = false := by
  have := h.blk
  simp [World.frozen?, this]
/-- A block that is new lies apart. -/
theorem NetR.out (h : NetR w B N V l nodes br ks ps bs) {o : Nat} (ho : w.heap.size ≤ o) : OutN N V o := by
  have h1 := h.ltn
  have h2 := h.KN.lt
  have h3 := h.KP.lt
  have h4 := h.KB.lt
  refine ⟨by omega, by omega, by omega, by omega, fun e => ?_, fun e => ?_, fun e => ?_⟩
  · have := h.L.lt _ e; omega
  · have := h.R.lt _ e; omega
  · have := h.Q.lt _ e; omega

/-- A name is laid into the first map. -/
theorem NetR.putM (h : NetR w B N V l nodes br ks ps bs) {s : ByteArray} (hm : MapN w' N.nm (ks ++ [s])) (hg : w.grownBy w' (some N.nm)) : NetR w' B N V l nodes br (ks ++ [s]) ps bs :=
  { h with
    blk := by rw [hg.block _ h.ltn (by simp [h.ap.nn])]; exact h.blk
    L := h.L.kept hg (.inr h.ap.l2)
    R := h.R.kept hg (.inr h.ap.n2)
    Q := h.Q.kept hg (.inr h.ap.b2)
    KN := hm
    KP := h.KP.kept hg (by simp [h.ap.mp.symm])
    KB := h.KB.kept hg (by simp [h.ap.mb.symm]) }
theorem NetR.putP (h : NetR w B N V l nodes br ks ps bs) {s : ByteArray} (hm : MapN w' N.pm (ps ++ [s])) (hg : w.grownBy w' (some N.pm)) : NetR w' B N V l nodes br ks (ps ++ [s]) bs :=
  { h with
    blk := by rw [hg.block _ h.ltn (by simp [h.ap.np])]; exact h.blk
    L := h.L.kept hg (.inr h.ap.l3)
    R := h.R.kept hg (.inr h.ap.n3)
    Q := h.Q.kept hg (.inr h.ap.b3)
    KN := h.KN.kept hg (by simp [h.ap.mp])
    KP := hm
    KB := h.KB.kept hg (by simp [h.ap.pb.symm]) }
theorem NetR.putB (h : NetR w B N V l nodes br ks ps bs) {s : ByteArray} (hm : MapN w' N.bm (bs ++ [s])) (hg : w.grownBy w' (some N.bm)) : NetR w' B N V l nodes br ks ps (bs ++ [s]) :=
  { h with
    blk := by rw [hg.block _ h.ltn (by simp [h.ap.nb])]; exact h.blk
    L := h.L.kept hg (.inr h.ap.l4)
    R := h.R.kept hg (.inr h.ap.n4)
    Q := h.Q.kept hg (.inr h.ap.b4)
    KN := h.KN.kept hg (by simp [h.ap.mb])
    KP := h.KP.kept hg (by simp [h.ap.pb])
    KB := hm }
theorem heap_set {b k : Nat} {u : Value} {cs : Array Value} {t : TypeId} (h : w.heap[b]? = some (.cells cs t (0, 0))) : (w.setCell ⟨b, k, none⟩ u).heap[b]? = some (.cells (cs.set! k u) t (0, 0)) := by
  have hlt := (Array.getElem?_eq_some_iff.1 h).1
  have h' : w.heap[b] = .cells cs t (0, 0) := by simpa [Array.getElem?_eq_getElem hlt] using h
  show (w.heap.modify b _)[b]? = _
  rw [Array.getElem?_eq_getElem (by simpa using hlt), Array.getElem_modify_self, h']
  rfl
/-- The first row grows: behind the append; behind the store. -/
theorem NetR.appL1 (h : NetR w B N V l nodes br ks ps bs) {v : Value} (hg : w.grownBy w' V.l.ownBlock) (hv : v.ownBlock = V.l.ownBlock ∨ v.ownBlock = some w.heap.size) (e : El) (hown : w'.ownsRow B 54 8 v (l.length + 1) (cellsL l ++ elC e)) :
    w'.cell? ⟨N.n, 1, none⟩ = some V.l ∧ w'.frozen? ⟨N.n, 1, none⟩ = false ∧ NetR (w'.setCell ⟨N.n, 1, none⟩ v) B N ⟨v, V.n, V.b⟩ (l ++ [e]) nodes br ks ps bs := by
  have ho := h.out (Nat.le_refl _)
  have hb : w'.heap[N.n]? = some (.cells (netC N V) 59 (0, 0)) := by rw [hg.block _ h.ltn h.ap.l1.symm]; exact h.blk
  refine ⟨by simp [World.cell?, hb, netC], by simp [World.frozen?, hb], ?_⟩
  have nl : ∀ k, V.l.ownBlock ≠ some k → k ≠ w.heap.size → v.ownBlock ≠ some k := by
    intro k h1 h2 e
    rcases hv with h3 | h3
    · exact h1 (h3 ▸ e)
    · rw [h3] at e; cases e; exact h2 rfl
  have nr : ∀ u : Value, (V.l.ownBlock = none ∨ V.l.ownBlock ≠ u.ownBlock) → u.ownBlock ≠ some w.heap.size → v.ownBlock = none ∨ v.ownBlock ≠ u.ownBlock := by
    intro u h1 h2
    rcases hv with h3 | h3
    · rw [h3]; exact h1
    · rw [h3]; exact .inr h2.symm
  exact {
    blk := heap_set hb
    L := by
      rw [List.length_append, cellsL_snoc]
      exact ownsRow_setCell_other hown (nl _ h.ap.l1 ho.n.symm) _
    R := ownsRow_setCell_other (h.R.kept hg (by rcases h.ap.ln with h1 | h1; rw [h1]; exact own_none _; exact .inr h1.symm)) h.ap.n1 _
    Q := ownsRow_setCell_other (h.Q.kept hg (by rcases h.ap.lb with h1 | h1; rw [h1]; exact own_none _; exact .inr h1.symm)) h.ap.b1 _
    KN := (h.KN.kept hg h.ap.l2.symm).setCell h.ap.nn.symm _
    KP := (h.KP.kept hg h.ap.l3.symm).setCell h.ap.np.symm _
    KB := (h.KB.kept hg h.ap.l4.symm).setCell h.ap.nb.symm _
    ap := { h.ap with
      l1 := nl _ h.ap.l1 ho.n.symm
      l2 := nl _ h.ap.l2 ho.m.symm
      l3 := nl _ h.ap.l3 ho.p.symm
      l4 := nl _ h.ap.l4 ho.b.symm
      ln := nr _ h.ap.ln ho.vn
      lb := nr _ h.ap.lb ho.vb }
    gn := h.gn
    gm := h.gm
    gp := h.gp
    gb := h.gb }
theorem NetR.appN1 (h : NetR w B N V l nodes br ks ps bs) {v : Value} (hg : w.grownBy w' V.n.ownBlock) (hv : v.ownBlock = V.n.ownBlock ∨ v.ownBlock = some w.heap.size) (s : ByteArray) (hown : w'.ownsRow B 9 1 v (nodes.length + 1) (strL nodes ++ [.string s])) :
    w'.cell? ⟨N.n, 3, none⟩ = some V.n ∧ w'.frozen? ⟨N.n, 3, none⟩ = false ∧ NetR (w'.setCell ⟨N.n, 3, none⟩ v) B N ⟨V.l, v, V.b⟩ l (nodes ++ [s]) br ks ps bs := by
  have ho := h.out (Nat.le_refl _)
  have hb : w'.heap[N.n]? = some (.cells (netC N V) 59 (0, 0)) := by rw [hg.block _ h.ltn h.ap.n1.symm]; exact h.blk
  refine ⟨by simp [World.cell?, hb, netC], by simp [World.frozen?, hb], ?_⟩
  have nl : ∀ k, V.n.ownBlock ≠ some k → k ≠ w.heap.size → v.ownBlock ≠ some k := by
    intro k h1 h2 e
    rcases hv with h3 | h3
    · exact h1 (h3 ▸ e)
    · rw [h3] at e; cases e; exact h2 rfl
  have nr : ∀ u : Value, (u.ownBlock = none ∨ u.ownBlock ≠ V.n.ownBlock) → u.ownBlock ≠ some w.heap.size → u.ownBlock = none ∨ u.ownBlock ≠ v.ownBlock := by
    intro u h1 h2
    rcases hv with h3 | h3
    · rw [h3]; exact h1
    · rw [h3]; exact .inr h2
  exact {
    blk := heap_set hb
    L := ownsRow_setCell_other (h.L.kept hg h.ap.ln) h.ap.l1 _
    R := by
      rw [List.length_append, strL_snoc]
      exact ownsRow_setCell_other hown (nl _ h.ap.n1 ho.n.symm) _
    Q := ownsRow_setCell_other (h.Q.kept hg h.ap.bn) h.ap.b1 _
    KN := (h.KN.kept hg h.ap.n2.symm).setCell h.ap.nn.symm _
    KP := (h.KP.kept hg h.ap.n3.symm).setCell h.ap.np.symm _
    KB := (h.KB.kept hg h.ap.n4.symm).setCell h.ap.nb.symm _
    ap := { h.ap with
      n1 := nl _ h.ap.n1 ho.n.symm
      n2 := nl _ h.ap.n2 ho.m.symm
      n3 := nl _ h.ap.n3 ho.p.symm
      n4 := nl _ h.ap.n4 ho.b.symm
      ln := nr _ h.ap.ln ho.vl
      bn := nr _ h.ap.bn ho.vb }
    gn := h.gn
    gm := h.gm
    gp := h.gp
    gb := h.gb }
theorem NetR.appB1 (h : NetR w B N V l nodes br ks ps bs) {v : Value} (hg : w.grownBy w' V.b.ownBlock) (hv : v.ownBlock = V.b.ownBlock ∨ v.ownBlock = some w.heap.size) (s : ByteArray) (hown : w'.ownsRow B 9 1 v (br.length + 1) (strL br ++ [.string s])) :
    w'.cell? ⟨N.n, 5, none⟩ = some V.b ∧ w'.frozen? ⟨N.n, 5, none⟩ = false ∧ NetR (w'.setCell ⟨N.n, 5, none⟩ v) B N ⟨V.l, V.n, v⟩ l nodes (br ++ [s]) ks ps bs := by
  have ho := h.out (Nat.le_refl _)
  have hb : w'.heap[N.n]? = some (.cells (netC N V) 59 (0, 0)) := by rw [hg.block _ h.ltn h.ap.b1.symm]; exact h.blk
  refine ⟨by simp [World.cell?, hb, netC], by simp [World.frozen?, hb], ?_⟩
  have nl : ∀ k, V.b.ownBlock ≠ some k → k ≠ w.heap.size → v.ownBlock ≠ some k := by
    intro k h1 h2 e
    rcases hv with h3 | h3
    · exact h1 (h3 ▸ e)
    · rw [h3] at e; cases e; exact h2 rfl
  exact {
    blk := heap_set hb
    L := ownsRow_setCell_other (h.L.kept hg h.ap.lb) h.ap.l1 _
    R := ownsRow_setCell_other (h.R.kept hg (by rcases h.ap.bn with h1 | h1; rw [h1]; exact own_none _; exact .inr h1.symm)) h.ap.n1 _
    Q := by
      rw [List.length_append, strL_snoc]
      exact ownsRow_setCell_other hown (nl _ h.ap.b1 ho.n.symm) _
    KN := (h.KN.kept hg h.ap.b2.symm).setCell h.ap.nn.symm _
    KP := (h.KP.kept hg h.ap.b3.symm).setCell h.ap.np.symm _
    KB := (h.KB.kept hg h.ap.b4.symm).setCell h.ap.nb.symm _
    ap := { h.ap with
      b1 := nl _ h.ap.b1 ho.n.symm
      b2 := nl _ h.ap.b2 ho.m.symm
      b3 := nl _ h.ap.b3 ho.p.symm
      b4 := nl _ h.ap.b4 ho.b.symm
      lb := by
        rcases hv with h3 | h3
        · show _ ∨ _ ≠ v.ownBlock
          rw [h3]; exact h.ap.lb
        · show _ ∨ _ ≠ v.ownBlock
          rw [h3]; exact .inr ho.vl
      bn := by
        show v.ownBlock = none ∨ v.ownBlock ≠ _
        rcases hv with h3 | h3
        · rw [h3]; exact h.ap.bn
        · rw [h3]; exact .inr ho.vn.symm }
    gn := h.gn
    gm := h.gm
    gp := h.gp
    gb := h.gb }
end
end Go.Proofs.Ytgcakhmdmajplaa
