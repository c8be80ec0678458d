/- Rows of structs: an element of several cells is appended. No condition. -/
import Derived.Test.YtfalbdlfopfgcaaGreatDoorSl
namespace Go.Proofs.YtfalbdlfopfgcaaGreatDoor
open Go.RowKit

theorem cells_new (w : World) (cs : List Value) (e : Nat) : ∀ j x, cs[j]? = some x → (w.alloc (.cells cs.toArray e)).cell? ((⟨w.heap.size, 0, none⟩ : Addr).add j) = some x := by
  intro j x hx
  have h : (⟨w.heap.size, 0, none⟩ : Addr).add j = ⟨w.heap.size, j, none⟩ := by
    simp [Addr.add]
    intro hj
    omega
  rw [h, World.cell?_alloc_new]
  simpa using hx

/-- 'out = append(out, u)', u a struct of the cells cs. -/
theorem wpList_appS {P : Program} {ops : Array Oper} {rest : List Oper} {o : Oper} {a : Act} {Q : Exit → Act → World → Prop} {w0 : World} (hgd : o.guard = none) (s x : Operand) (t : TypeId)
    (ho : o.op = .call { callee := .builtin .append, args := #[s, x], argTypes := #[t, t] })
    (base : Nat) (e : TypeId) (z : Value) (size bytes : Nat) (hsz : 0 < size) (ht : P.underlying t = some (.slice e)) (hinfo : (P.info? e).map (fun i => (i.zero, i.size, i.bytes)) = some (some z, size, bytes)) (hz : z.cells.size = size)
    (v : Value) (n : Nat) (xs : List Value) (cs : List Value) (hs : a.eval s = v) (hx : a.eval x = .slice (some ⟨w0.heap.size, 0, none⟩) 1 1) (hl : cs.length = size) (hu : ∀ u ∈ cs, u.oneCell' = true)
    (hown : w0.ownsRow base e size v n xs) (hbytes : (n + 1) * bytes ≤ 140737488355328) (h63 : n + 1 ≤ 9223372036854775807) (hbase : base ≤ w0.heap.size)
    (h : ∀ v' w', w'.ownsRow base e size v' (n + 1) (xs ++ cs) → Below base w0 w' → w0.heap.size ≤ w'.heap.size → wpList P ops Q rest (a.put o.dst v') w') : wpList P ops Q (o :: rest) a (w0.alloc (.cells cs.toArray e)) := by
  obtain ⟨i, hi, hz0, hz1, hz2⟩ := info_parts hinfo
  refine wpList_append_own _ hgd s x t ho base e i z size bytes ht hi hz0 hz1 hz2 hz hsz v n xs hs (hown.alloc _) ⟨w0.heap.size, 0, none⟩ 1 1 cs hx (by rw [hl, Nat.one_mul]) (cells_new w0 cs e) hu (by unfold maxLen; omega) hbytes (by simp; omega) ?_
  intro v' w' h1 h2 _
  have hbl : Below base w0 w' := ((Below.refl base w0).alloc hbase _).grown h2 (by simp; omega) (fun k hk => ((hown.alloc (.cells cs.toArray e)).lt k hk).1)
  exact h v' w' h1 hbl hbl.size
end Go.Proofs.YtfalbdlfopfgcaaGreatDoor

