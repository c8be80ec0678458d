/- The kit's functions on elements that are made or lent: ElementsOf, CopyElements, marks behind. Conditions: lengths as the reach has them. The kit's functions on elements that are held against others: SameElement, SameElements on what is the same; KeptElements. Conditions: lengths as the reach has them. A net's elements: the netlist's, the law's; what a net's fault tells. Condition: kinds are bytes. What holds of a made net, plainly: its nodes and branches are the elements', none is the ground, no name is empty. No condition. Package graph, plainly: sets of nodes that hang together. No condition. Package graph: joins, join, of, all, none, Grounded. Conditions: the net is made. -/
import Derived.Test.YtgcakhmdmajplaaNLInM
import Derived.Test.YtgcakhmdmajplaaNRowsM
import Derived.Test.YtgcakhmdmajplaaBaseM
import Derived.Test.YtgcakhmdmajplaaNOfM
import Derived.Test.YtgcakhmdmajplaaGNetM
import Derived.Deep.QuietTactic
import Derived.BigQuiet
import Derived.Deep.RegionHeld3
import Derived.Deep.AppendLies
namespace Go.Proofs.Ytgcakhmdmajplaa
open Go.RowKit

/-- A slice of elements as they came in: floats as bits. -/
def KsAt (w : World) (v : Value) (L : List El) : Prop := ∃ a cap, v = .slice a L.length cap ∧ ∀ k e, L[k]? = some e → ∃ b off, a = some ⟨b, off, none⟩ ∧ ∀ j x, (kC e)[j]? = some x → w.cell? ⟨b, off + k * 8 + j, none⟩ = some x
theorem KsAt.below {w w' : World} {v : Value} {L : List El} (h : KsAt w v L) (hb : Below w.heap.size w w') : KsAt w' v L := by
  obtain ⟨a, cap, rfl, hr⟩ := h
  refine ⟨a, cap, rfl, fun k e he => ?_⟩
  obtain ⟨b, off, rfl, hc⟩ := hr k e he
  exact ⟨b, off, rfl, fun j x hx => by rw [hb.cell (World.block_lt_of_cell? _ _ (hc j x hx))]; exact hc j x hx⟩
theorem KsAt.at {w : World} {a : Option Addr} {n cap : Nat} {L : List El} (h : KsAt w (.slice a n cap) L) {k : Nat} {e : El} (he : L[k]? = some e) :
    ∃ b off, a = some ⟨b, off, none⟩ ∧ b < w.heap.size ∧ w.cell? ⟨b, off + k * 8, none⟩ = some (.int .u8 e.kind) ∧ w.cell? ⟨b, off + k * 8 + 1, none⟩ = some (.string e.name) ∧ w.cell? ⟨b, off + k * 8 + 2, none⟩ = some (.string e.a) ∧ w.cell? ⟨b, off + k * 8 + 3, none⟩ = some (.string e.b) ∧ w.cell? ⟨b, off + k * 8 + 4, none⟩ = some (.string e.c) ∧ w.cell? ⟨b, off + k * 8 + 5, none⟩ = some (.string e.d) ∧ w.cell? ⟨b, off + k * 8 + 6, none⟩ = some (.int .u64 e.v) ∧ w.cell? ⟨b, off + k * 8 + 7, none⟩ = some (.int .i64 e.ph) := by
  obtain ⟨a', cap', e1, hr⟩ := h
  cases e1
  obtain ⟨b, off, rfl, hc⟩ := hr k e he
  exact ⟨b, off, rfl, World.block_lt_of_cell? _ _ (hc 0 _ rfl), hc 0 _ rfl, hc 1 _ rfl, hc 2 _ rfl, hc 3 _ rfl, hc 4 _ rfl, hc 5 _ rfl, hc 6 _ rfl, hc 7 _ rfl⟩
def EoLoop (W : World) (L : List El) (i out : Value) (w : World) : Prop := ∃ k : Nat, i = .int .i64 k ∧ k ≤ L.length ∧ w.ownsRow W.heap.size 54 8 out k (cellsL (L.take k)) ∧ Below W.heap.size W w

set_option maxRecDepth 100000 in
set_option maxHeartbeats 4000000 in
theorem ElementsOf_any (L : List El) (v0 : Value) (w : World) (hn : L.length ≤ 1000) (hs : KsAt w v0 L) :
    Calls Try.prog 19 #[v0] w (RetQ w L) := by
  obtain ⟨iE, hiE, hz0, hz1, hz2⟩ := info_parts info_el
  go_enter Try.func19, Try.ntmps19
  go_wp2
  go_loopw [4, 3] (fun i out w' => EoLoop w L i out w') (fun i _ _ => L.length + 1 - (intOf i).toNat)
  case atStart => exact ⟨0, rfl, by omega, World.ownsRow_nil _ _ _ _, Below.refl _ _⟩
  case round =>
    obtain ⟨k, rfl, hk, hown, hb⟩ := hrel
    have hz := hb.size
    have hE := hs.below hb
    have hE2 := hE
    obtain ⟨a, cap, rfl, -⟩ := hE2
    by_cases hkn : k < L.length
    · obtain ⟨e, he⟩ : ∃ e, L[k]? = some e := ⟨L[k]'hkn, List.getElem?_eq_getElem hkn⟩
      obtain ⟨b, off, rfl, hbl, c0, c1, c2, c3, c4, c5, c6, c7⟩ := hE.at he
      have g1 : (k : Int) < (L.length : Int) := by omega
      have HS := hid (el_snoc he)
      clear he hE hs
      have HEL := Element_any e
      unfold kV kC elV elC at HEL
      go_wp2_with (first | (go_at_call 33; (with_reducible refine (HEL _).mono ?_); rintro E w2 ⟨rfl, hb2⟩; have hown2 := owns_below hown hb2; clear hown; have hnew := cells_new w2 (elC e) 54; have hzz := hb2.size) | (at_builtin; go_loud (refine wpList_append_lies _ rfl _ _ 24 rfl w.heap.size 54 iE _ 8 104 Try.underlying24 hiE hz0 hz1 hz2 rfl (by decide) u3 k (cellsL (L.take k)) rfl (by exact hown2.alloc _) ⟨w2.heap.size, 0, none⟩ 1 1 (elC e) rfl rfl (by exact hnew) (by simp [elC, Value.oneCell']) (by decide) (by unfold maxLen; omega) (by omega) (by simp; omega) _ rfl ?_; intro g2 cap2 w7 hown7 hg7 hat7 hlt7)))
      go_roundw
      case rel => exact ⟨k + 1, by go_num, by omega, by rw [HS.out, cellsL_snoc]; exact hown7, Below.grown (bla _ (bl2 hb hb2)) hg7 (by simp; omega) (fun k hk => (hown2.lt k hk).1)⟩
      case measure => simp [intOf] <;> omega
    · obtain rfl : k = L.length := by omega
      rw [List.take_length] at hown
      go_wp2
      go_ret
      exact ⟨_, rfl, hown, hb⟩

set_option maxRecDepth 100000 in
set_option maxHeartbeats 1000000 in
theorem CopyElements_any (L : List El) (v0 : Value) (w : World) (hn : L.length ≤ 2000) (hs : ElsN w v0 L) :
    Calls Try.prog 32 #[v0] w (RetQ w L) := by
  go_enter Try.func32, Try.ntmps32
  go_wp2_with (at_builtin; go_loud (refine wpList_appE rfl _ _ 24 rfl Try.underlying24 w.heap.size (.slice none 0 0) 0 [] v0 L rfl rfl hs (World.ownsRow_nil _ _ _ _) (by omega) (Nat.le_refl _) ?_; intro v' w' h1 h2 h3))
  go_ret
  exact ⟨_, rfl, by simpa using h1, h2⟩

/-- A mark. -/
def markE (i : Nat) : El := ⟨99, ⟨#[]⟩, ⟨#[]⟩, ⟨#[]⟩, ⟨#[]⟩, ⟨#[]⟩, 0, -7007 - (i : Int)⟩
/-- The list that was lent, and the marks behind it. -/
def lentE (L : List El) : List El := L ++ (List.range 6).map markE
theorem lentE_length (L : List El) : (lentE L).length = L.length + 6 := by simp [lentE]
def LeLoop (W : World) (L : List El) (out i : Value) (w : World) : Prop := ∃ k : Nat, i = .int .i64 k ∧ k ≤ 6 ∧ w.ownsRow W.heap.size 54 8 out (L.length + k) (cellsL (L ++ (List.range k).map markE)) ∧ Below W.heap.size W w
end Go.Proofs.Ytgcakhmdmajplaa

namespace Go.Proofs.Ytgcakhmdmajplaa
open Go.RowKit

theorem els_at2 {w : World} {b off : Nat} {n cap : Nat} {L : List El} (h : ElsAt w (.slice (some ⟨b, off, none⟩) n cap) L) {k : Nat} {e : El} (he : L[k]? = some e) :
    w.cell? ⟨b, off + k * 8, none⟩ = some (.int .u8 e.kind) ∧ w.cell? ⟨b, off + k * 8 + 1, none⟩ = some (.string e.name) ∧ w.cell? ⟨b, off + k * 8 + 2, none⟩ = some (.string e.a) ∧ w.cell? ⟨b, off + k * 8 + 3, none⟩ = some (.string e.b) ∧ w.cell? ⟨b, off + k * 8 + 4, none⟩ = some (.string e.c) ∧ w.cell? ⟨b, off + k * 8 + 5, none⟩ = some (.string e.d) ∧ w.cell? ⟨b, off + k * 8 + 6, none⟩ = some (.float .f64 e.v) ∧ w.cell? ⟨b, off + k * 8 + 7, none⟩ = some (.int .i64 e.ph) := by
  obtain ⟨b', off', e1, _, h⟩ := h.at he
  cases e1
  exact h
def SeLoop (w : World) (L : List El) (i : Value) (wr : World) : Prop := ∃ k : Nat, k ≤ L.length ∧ i = .int .i64 k ∧ Below w.heap.size w wr
end Go.Proofs.Ytgcakhmdmajplaa

namespace Go.Proofs.Ytgcakhmdmajplaa
open Go.RowKit

theorem netG_inl : ∀ (L : List El) (s : NetS) (i : Nat) (f : Int × Int), netG s i L = .inl f → f.1 ≠ 0
  | [], s, i, f, h => by simp [netG] at h
  | e :: r, s, i, f, h => by
    unfold netG at h
    split at h
    · split at h
      · cases h; simp
      · exact netG_inl r _ _ _ h
    · rename_i hc
      cases h
      simpa using hc
theorem netG_inr : ∀ (L : List El) (s s' : NetS) (i : Nat), netG s i L = .inr s' → s'.l = s.l ++ L
  | [], s, s', i, h => by
    simp [netG] at h
    rw [← h, List.append_nil]
  | e :: r, s, s', i, h => by
    unfold netG at h
    split at h
    · split at h
      · cases h
      · rw [netG_inr r _ _ _ h]
        simp [putN]
    · cases h
theorem netF_some {L : List El} {f : Int × Int} {s : NetS} (h : netF L = (f, some s)) : f = (0, 0) ∧ s.l = L := by
  unfold netF at h
  split at h
  · simp at h
  · split at h
    · simp at h
    · rename_i s' hg
      split at h
      · simp at h
      · simp at h
        obtain ⟨rfl, rfl⟩ := h
        exact ⟨rfl, by rw [netG_inr _ _ _ _ hg]; rfl⟩
theorem netF_none {L : List El} {f : Int × Int} (h : netF L = (f, none)) : f.1 ≠ 0 := by
  unfold netF at h
  split at h
  · cases h; simp
  · split at h
    · rename_i f' hg
      cases h
      exact netG_inl _ _ _ _ hg
    · split at h
      · cases h; simp
      · simp at h
set_option maxRecDepth 100000 in
set_option maxHeartbeats 1000000 in
theorem nElements_any {w : World} {B : Nat} {N : NB} {V : NV} {L : List El} {nodes br ks ps bs : List ByteArray} (K : NetR w B N V L nodes br ks ps bs) (hl : L.length ≤ 1000) : Calls Try.prog 16 #[.pointer (some ⟨N.n, 0, none⟩)] w (RetQ w L) := by
  have HN := hid (is_any K)
  have hE := ElsN.of_owns K.L
  obtain ⟨c0, c1, -⟩ := K.cells
  go_enter Try.func16, Try.ntmps16
  go_wp2_with (first | (go_at_call 30; (with_reducible refine HN.out.mono ?_); rintro E1 w1 ⟨rfl, rfl⟩) | (at_builtin; go_loud (refine wpList_appE rfl _ _ 24 rfl Try.underlying24 w1.heap.size (.slice none 0 0) 0 [] V.l L rfl rfl hE (World.ownsRow_nil _ _ _ _) (by omega) (Nat.le_refl _) ?_; intro v' w' h1 h2 h3)))
  go_ret
  exact ⟨_, rfl, by simpa using h1, h2⟩
/-- The elements of a net that may be none. -/
def netL (o : Option NetS) (L : List El) : List El := match o with | none => [] | some _ => L
end Go.Proofs.Ytgcakhmdmajplaa

namespace Go.Proofs.Ytgcakhmdmajplaa
open Go.RowKit

theorem checkE_size {e : El} (h : checkE e = 0) : 2 ≤ e.name.size := by
  unfold checkE at h
  split at h
  · rename_i hk
    split at h
    · rename_i hn
      unfold namedE at hn
      simp only [Bool.and_eq_true, decide_eq_true_eq] at hn
      have h1 := hn.1.1.1
      unfold nameK at h1
      split at h1
      · rename_i hl
        unfold lenS at hl
        simp only [Bool.and_eq_true, decide_eq_true_eq] at hl
        exact hl.1.1
      · unfold okK at hk
        simp only [Bool.and_eq_true, decide_eq_true_eq] at hk
        omega
    · cases h
  · cases h
structure GoodN (s : NetS) : Prop where
  nd : s.nodes = nodesF s.l
  br : s.br = brF s.l
  z : hasS s.nodes zero8 = false
  e : hasS (nmL s.l) ⟨#[]⟩ = false
theorem putNode_zero {ns : List ByteArray} {x : ByteArray} (h : hasS ns zero8 = false) : hasS (putNode ns x) zero8 = false := by
  unfold putNode
  split
  · rename_i hn
    rw [hasS_snoc, h, Bool.false_or]
    unfold newNode at hn
    simp only [Bool.and_eq_true] at hn
    cases hx : (x.data.toList == zero8.data.toList)
    · rfl
    · have hx2 : x.toList = [48] := by
        rw [ByteArray.toList_eq]
        exact eq_of_beq hx
      rw [hx2] at hn
      simp at hn
  · exact h
theorem fold_zero : ∀ (xs ns : List ByteArray), hasS ns zero8 = false → hasS (xs.foldl putNode ns) zero8 = false
  | [], ns, h => h
  | x :: xs, ns, h => by
    rw [List.foldl_cons]
    exact fold_zero xs _ (putNode_zero h)
theorem GoodN.put {s : NetS} (h : GoodN s) {e : El} (hc : checkE e = 0) : GoodN (putN s e) := by
  refine ⟨?_, ?_, fold_zero _ _ h.z, ?_⟩
  · show (fourE e).foldl putNode s.nodes = nodesF (s.l ++ [e])
    rw [nodesF_snoc, ← h.nd]
  · show (if brK e.kind = true then s.br ++ [e.name] else s.br) = brF (s.l ++ [e])
    rw [brF_snoc, ← h.br]
  · have hm : nmL (putN s e).l = nmL s.l ++ [e.name] := by simp [nmL, putN]
    rw [hm, hasS_snoc, h.e, Bool.false_or]
    have h2 := checkE_size hc
    cases hx : (e.name.data.toList == (⟨#[]⟩ : ByteArray).data.toList)
    · rfl
    · have h3 := congrArg List.length (eq_of_beq hx)
      have h4 : e.name.data.toList.length = e.name.size := Array.length_toList
      rw [h4] at h3
      have h5 : e.name.size = 0 := h3
      omega
theorem netG_good : ∀ (L : List El) (s s' : NetS) (i : Nat), netG s i L = .inr s' → GoodN s → GoodN s'
  | [], s, s', i, h, g => by
    simp [netG] at h
    rw [← h]
    exact g
  | e :: r, s, s', i, h, g => by
    unfold netG at h
    split at h
    · rename_i hc
      split at h
      · cases h
      · exact netG_good r _ _ _ h (g.put hc)
    · cases h
theorem netF_good {L : List El} {f : Int × Int} {s : NetS} (h : netF L = (f, some s)) : GoodN s ∧ s.nodes.length ≤ 32 ∧ s.nodes.length + s.br.length ≤ 64 ∧ L.length ≤ 256 := by
  unfold netF at h
  split at h
  · simp at h
  · rename_i hlen
    split at h
    · simp at h
    · rename_i s' hg
      split at h
      · simp at h
      · rename_i hs
        simp at h
        obtain ⟨rfl, rfl⟩ := h
        exact ⟨netG_good _ _ _ _ hg ⟨rfl, rfl, rfl, rfl⟩, by omega, by omega, by omega⟩
end Go.Proofs.Ytgcakhmdmajplaa

namespace Go.Proofs.Ytgcakhmdmajplaa
open Go.RowKit Go.Maps

def rootF (up : List Nat) : Nat → Nat → Nat
  | 0, k => k
  | f + 1, k => if up.getD k 0 = k then k else rootF up f (up.getD k 0)
/-- The first node of a node's set. -/
def rootN (up : List Nat) (k : Nat) : Nat := rootF up k k
def OkUp (up : List Nat) : Prop := ∀ (k u : Nat), up[k]? = some u → u ≤ k
theorem rootF_more {up : List Nat} (ho : OkUp up) : ∀ (k f : Nat), k < up.length → k ≤ f → rootF up f k = rootF up k k := by
  intro k
  induction k using Nat.strongRecOn with
  | ind k ih =>
    intro f hk hf
    have hu := ho k _ (List.getElem?_eq_getElem hk)
    have hd : up.getD k 0 = up[k] := by rw [List.getD_eq_getElem?_getD, List.getElem?_eq_getElem hk]; rfl
    rw [← hd] at hu
    match k, f, hf with
    | 0, 0, _ => rfl
    | 0, f + 1, _ =>
      show (if up.getD 0 0 = 0 then 0 else rootF up f (up.getD 0 0)) = 0
      rw [if_pos (by omega)]
    | k + 1, f + 1, hf =>
      show (if up.getD (k + 1) 0 = k + 1 then k + 1 else rootF up f (up.getD (k + 1) 0)) = (if up.getD (k + 1) 0 = k + 1 then k + 1 else rootF up k (up.getD (k + 1) 0))
      by_cases h : up.getD (k + 1) 0 = k + 1
      · rw [if_pos h, if_pos h]
      · rw [if_neg h, if_neg h]
        rw [ih _ (by omega) f (by omega) (by omega), ih _ (by omega) k (by omega) (by omega)]
theorem rootN_stop {up : List Nat} {k : Nat} (h : up[k]? = some k) : rootN up k = k := by
  unfold rootN
  cases k with
  | zero => rfl
  | succ k =>
    show (if up.getD (k + 1) 0 = k + 1 then k + 1 else rootF up k (up.getD (k + 1) 0)) = k + 1
    rw [if_pos (by rw [List.getD_eq_getElem?_getD, h]; rfl)]
theorem rootN_step {up : List Nat} (ho : OkUp up) {k u : Nat} (h : up[k]? = some u) (hne : u ≠ k) : rootN up k = rootN up u := by
  have hk := (List.getElem?_eq_some_iff.1 h).1
  have hu := ho k u h
  unfold rootN
  cases k with
  | zero => omega
  | succ k =>
    have hd : up.getD (k + 1) 0 = u := by rw [List.getD_eq_getElem?_getD, h]; rfl
    show (if up.getD (k + 1) 0 = k + 1 then k + 1 else rootF up k (up.getD (k + 1) 0)) = _
    rw [hd, if_neg hne]
    exact rootF_more ho u k (by omega) (by omega)
theorem rootN_le {up : List Nat} (ho : OkUp up) (k : Nat) : k < up.length → rootN up k ≤ k := by
  induction k using Nat.strongRecOn with
  | ind k ih =>
    intro hk
    have h := List.getElem?_eq_getElem hk
    by_cases he : up[k] = k
    · rw [rootN_stop (by rw [h, he])]
      exact Nat.le_refl _
    · have hu := ho k _ h
      rw [rootN_step ho h he]
      exact Nat.le_trans (ih _ (by omega) (by omega)) hu
def joinN (up : List Nat) (i j : Nat) : List Nat := up.set (max (rootN up i) (rootN up j)) (min (rootN up i) (rootN up j))
theorem joinN_ok {up : List Nat} (ho : OkUp up) {i j : Nat} : OkUp (joinN up i j) := by
  intro k u h
  unfold joinN at h
  rw [List.getElem?_set] at h
  split at h
  · split at h
    · cases h
      omega
    · cases h
  · exact ho k u h
def joinsK (k : Nat) : Bool := k != 4 && k != 6
def upE (ks : List ByteArray) (up : List Nat) (e : El) : List Nat := if joinsK e.kind = true then joinN up (plc ks e.a) (plc ks e.b) else up
def up0 (n : Nat) : List Nat := List.range (n + 1)
theorem up0_len (n : Nat) : (up0 n).length = n + 1 := by simp [up0]
theorem up0_snoc (n : Nat) : up0 (n + 1) = up0 n ++ [n + 1] := List.range_succ
theorem up0_ok (n : Nat) : OkUp (up0 n) := by
  intro k u h
  unfold up0 at h
  have hk := (List.getElem?_eq_some_iff.1 h).1
  rw [List.length_range] at hk
  rw [List.getElem?_range hk] at h
  cases h
  exact Nat.le_refl _
def upAll (nodes : List ByteArray) (L : List El) : List Nat := L.foldl (upE (zero8 :: nodes)) (up0 nodes.length)
def gndG (up : List Nat) : Nat → Nat → Int × Int
  | _, 0 => (0, 0)
  | i, n + 1 => if rootN up (i + 1) = 0 then gndG up (i + 1) n else (11, (i : Int))
/-- What graph.Grounded tells. -/
def gndF (nodes : List ByteArray) (L : List El) : Int × Int := gndG (upAll nodes L) 0 nodes.length
theorem upE_ok {ks : List ByteArray} {up : List Nat} {e : El} (h : OkUp up) : OkUp (upE ks up e) := by
  unfold upE
  split
  · exact joinN_ok h
  · exact h
theorem upE_len {ks : List ByteArray} {up : List Nat} {e : El} : (upE ks up e).length = up.length := by
  unfold upE joinN
  split
  · simp
  · rfl
set_option maxRecDepth 100000 in
theorem MapN.run0 {w : World} {b : Nat} {ks : List ByteArray} (h : MapN w b ks) {s : ByteArray} (hs : s.size ≤ maxLen) (hk : hasS ks s = true) : (Instr.lookup 57 (.map (some b)) (.string s) false).run Try.prog w = .ok (.int .i64 (plc ks s)) w := by
  obtain ⟨D, h1, h2, h3⟩ := h
  obtain ⟨c, hrun, hat, hwc⟩ := h1.lookup_int lawS Try.underlying57 Try.underlying3 (zeroI w) (WideMaps.keyOf_string_mk Try.underlying9 hs)
  have : D.atKey (.string s.data.toList) (.lit (.int .i64 0)) = .lit (.int .i64 (plc ks s)) := h3 _ s (plc_get hk) _
  rw [this] at hat
  injection hat with h
  injection h with _ h
  rw [hrun, h]
/-- The sets in the world. -/
structure StsAt (B : Nat) (w : World) (s mb : Nat) (uv : Value) (ks : List ByteArray) (up : List Nat) : Prop where
  box : w.heap[s]? = some (.cells #[.map (some mb), uv] 129 (0, 0))
  m : MapN w mb ks
  row : w.ownsRow B 3 1 uv up.length (up.map fun k : Nat => Value.int .i64 (k : Int))
section
variable {B : Nat} {w w' : World} {s mb : Nat} {uv : Value} {ks : List ByteArray} {up : List Nat}
theorem StsAt.c0 (h : StsAt B w s mb uv ks up) : w.cell? ⟨s, 0, none⟩ = some (.map (some mb)) := by have := h.box; simp [World.cell?, this]
theorem StsAt.c1 (h : StsAt B w s mb uv ks up) : w.cell? ⟨s, 1, none⟩ = some uv := by have := h.box; simp [World.cell?, this]
theorem StsAt.fr (h : StsAt B w s mb uv ks up) (j : Nat) : w.frozen? ⟨s, j, none⟩ = false := by have := h.box; simp [World.frozen?, this]
theorem StsAt.lt (h : StsAt B w s mb uv ks up) : s < w.heap.size := (Array.getElem?_eq_some_iff.1 h.box).1
theorem StsAt.drewN (h : StsAt B w s mb uv ks up) (n : Nat) : StsAt B (w.drewN n) s mb uv ks up := ⟨h.box, h.m.below (below_drewN' (Below.refl _ _) n), owns_drewN h.row n⟩
theorem StsAt.below (h : StsAt B w s mb uv ks up) (hb : Below w.heap.size w w') : StsAt B w' s mb uv ks up := ⟨(hb.block s h.lt).trans h.box, h.m.below hb, owns_below h.row hb⟩
theorem StsAt.get (h : StsAt B w s mb uv ks up) {k u : Nat} (hu : up[k]? = some u) : ∃ g cap, uv = .slice (some ⟨g, 0, none⟩) up.length cap ∧ w.cell? ⟨g, k, none⟩ = some (.int .i64 u) ∧ w.frozen? ⟨g, k, none⟩ = false ∧ B ≤ g := by
  have hk := (List.getElem?_eq_some_iff.1 hu).1
  obtain ⟨g, cap, rfl, hg, -⟩ := h.row.form (by omega)
  refine ⟨g, cap, rfl, ?_, h.row.frozenAt k, hg⟩
  rw [h.row.cellAt k (by omega), List.getElem?_map, hu]
  rfl
set_option maxRecDepth 100000 in
set_option maxHeartbeats 2000000 in
theorem root_any (H : StsAt B w s mb uv ks up) (ho : OkUp up) (k : Nat) (hk : k < up.length) :
    Calls Try.prog 57 #[.pointer (some ⟨s, 0, none⟩), .int .i64 k] w fun E w' => E = .returned (.int .i64 (rootN up k)) ∧ w' = w := by
  obtain ⟨g, cap, rfl, -⟩ := H.get (List.getElem?_eq_getElem hk)
  have c1 := H.c1
  go_enter Try.func57, Try.ntmps57
  go_wp2
  go_loopw [1] (fun i w' => ∃ q : Nat, i = .int .i64 q ∧ q < up.length ∧ rootN up k = rootN up q ∧ w' = w) (fun i _ => (intOf i).toNat)
  case atStart => exact ⟨k, rfl, hk, rfl, rfl⟩
  case round =>
    obtain ⟨q, rfl, hq, hr, rfl⟩ := hrel
    have hqu := List.getElem?_eq_getElem hq
    obtain ⟨g', cap', e1, c2, -⟩ := H.get hqu
    cases e1
    generalize hu : up[q] = u at *
    have hle := ho q u hqu
    have hqi : (q : Int) < (up.length : Int) := by omega
    by_cases he : u = q
    · subst he
      have HR := hid (hr.trans (rootN_stop hqu))
      clear hr hu hqu
      go_wp2
      go_ret
      exact ⟨by rw [HR.out]; rfl, rfl⟩
    · have HR := hid (hr.trans (rootN_step ho hqu he))
      have g7 : ((u : Int) == (q : Int)) = false := by simp; omega
      have g8 : ¬ ((u : Int) = (q : Int)) := by omega
      clear hr hu hqu
      go_wp2
      go_roundw
      case rel => exact ⟨u, rfl, by omega, HR.out, trivial⟩
      case measure => simp [intOf] <;> omega
end
end Go.Proofs.Ytgcakhmdmajplaa

namespace Go.Proofs.Ytgcakhmdmajplaa
open Go.RowKit Go.Maps

set_option maxRecDepth 100000 in
set_option maxHeartbeats 1000000 in
theorem joins_any (k : Nat) (w : World) : Calls Try.prog 74 #[.int .u8 k] w fun E w' => E = .returned (.bool (joinsK k)) ∧ w' = w := by
  unfold joinsK
  go_enter Try.func74, Try.ntmps74
  by_cases h4 : k = 4
  · subst h4
    go_wp2
    go_ret
    exact ⟨rfl, rfl⟩
  · have g4 : ((k : Int) != 4) = true := by simp; omega
    have g5 : ¬ ((k : Int) = 4) := by omega
    have n4 : (k != 4) = true := by simp [h4]
    by_cases h6 : k = 6
    · subst h6
      go_wp2
      go_ret
      exact ⟨rfl, rfl⟩
    · have g6 : ((k : Int) != 6) = true := by simp; omega
      have g7 : ¬ ((k : Int) = 6) := by omega
      have n6 : (k != 6) = true := by simp [h6]
      go_wp2
      go_ret
      exact ⟨by simp [h4, h6], rfl⟩
theorem plc_lt0 {nodes : List ByteArray} {s : ByteArray} (h : hasS nodes s = true) : plc nodes s < nodes.length := (List.getElem?_eq_some_iff.1 (plc_get h)).1
section
variable {B : Nat} {w w' : World} {s mb : Nat} {uv : Value} {ks : List ByteArray} {up : List Nat}
theorem StsAt.set (h : StsAt B w s mb uv ks up) {g cap k u : Nat} (hv : uv = .slice (some ⟨g, 0, none⟩) up.length cap) : StsAt B (w.setCell ⟨g, k, none⟩ (.int .i64 (u : Int))) s mb uv ks (up.set k u) := by
  subst hv
  have hrow := h.row
  have hgs : s ≠ g := by
    intro e
    subst e
    rcases hrow.2 with ⟨e2, _⟩ | ⟨g', cap', cur, e2, _, hg, _⟩
    · cases e2
    · cases e2
      rw [h.box] at hg
      cases hg
  have hgm : mb ≠ g := by
    intro e
    subst e
    obtain ⟨D, hm, _⟩ := h.m
    rcases hrow.2 with ⟨e2, _⟩ | ⟨g', cap', cur, e2, _, hg, _⟩
    · cases e2
    · cases e2
      obtain ⟨es, clock, hmm, -⟩ := hm
      rw [hmm] at hg
      cases hg
  obtain ⟨r1, r2⟩ := hrow.stored k (.int .i64 (u : Int))
  refine ⟨?_, h.m.setCell hgm _, ?_⟩
  · rw [Below.heap_setCell _ _ _ _ hgs]
    exact h.box
  · rw [List.length_set, List.map_set]
    exact r1
theorem grown_dset (w : World) (n b j : Nat) (u : Value) : w.grownBy ((w.drewN n).setCell ⟨b, j, none⟩ u) (some b) := ⟨rfl, rfl, rfl, by simp [World.setCell, World.drewN], fun k _ hi => Below.heap_setCell _ _ _ _ (fun e => hi (by rw [e]))⟩
set_option maxRecDepth 100000 in
set_option maxHeartbeats 4000000 in
theorem join_any (H : StsAt B w s mb uv ks up) (ho : OkUp up) (hup : up.length = ks.length) (a b : ByteArray) (ha : hasS ks a = true) (hb : hasS ks b = true) (hsa : a.size ≤ maxLen) (hsb : b.size ≤ maxLen) :
    Calls Try.prog 75 #[.pointer (some ⟨s, 0, none⟩), .string a, .string b] w fun E w' => (∃ bo, E = .returned (.bool bo)) ∧ StsAt B w' s mb uv ks (joinN up (plc ks a) (plc ks b)) ∧ Below B w w' ∧ w.grownBy w' uv.ownBlock := by
  have pa := plc_lt0 ha
  have pb := plc_lt0 hb
  have l1 : ∀ n, (Instr.lookup 57 (.map (some mb)) (.string a) false).run Try.prog (w.drewN n) = .ok (.int .i64 (plc ks a)) (w.drewN n) := fun n => (H.drewN n).m.run0 hsa ha
  have l2 : ∀ n, (Instr.lookup 57 (.map (some mb)) (.string b) false).run Try.prog (w.drewN n) = .ok (.int .i64 (plc ks b)) (w.drewN n) := fun n => (H.drewN n).m.run0 hsb hb
  have HA := hid fun n => root_any (H.drewN n) ho (plc ks a) (by omega)
  have HB := hid fun n => root_any (H.drewN n) ho (plc ks b) (by omega)
  have ra := rootN_le ho (plc ks a) (by omega)
  have rb := rootN_le ho (plc ks b) (by omega)
  unfold joinN
  generalize plc ks a = p at *
  generalize plc ks b = q at *
  generalize rootN up p = i at *
  generalize rootN up q = j at *
  have c0 := H.c0
  obtain ⟨g, cap, e1, -⟩ := H.get (List.getElem?_eq_getElem (show 0 < up.length by omega))
  have c1 := H.c1
  rw [e1] at c1
  go_enter Try.func75, Try.ntmps75
  go_upto_region 1 with (fail)
  go_quiet (first
    | (go_at_call 57; with_reducible exact Calls.quiet_of_same (HA.out _))
    | (go_at_call 57; with_reducible exact Calls.quiet_of_same (HB.out _)))
  have H2 := H.drewN nq
  rcases (by omega : j < i ∨ i < j ∨ i = j) with hij | hij | hij
  · obtain ⟨g', cap', e2, c2, f2, hg⟩ := H.get (List.getElem?_eq_getElem (show i < up.length by omega))
    rw [e1] at e2
    cases e2
    have hmx : max (i : Int) (j : Int) = (i : Int) := by omega
    have hmn : min (i : Int) (j : Int) = (j : Int) := by omega
    have h1 : (j : Int) < (i : Int) := by omega
    have hiu : (i : Int) < (up.length : Int) := by omega
    clear l1 l2 HA HB
    go_wp2
    go_ret
    rw [Nat.max_eq_left (by omega), Nat.min_eq_right (by omega)]
    exact ⟨⟨_, rfl⟩, H2.set e1, (below_drewN' (Below.refl _ _) nq).setCell hg _, by rw [e1]; exact grown_dset w nq g _ _⟩
  · obtain ⟨g', cap', e2, c2, f2, hg⟩ := H.get (List.getElem?_eq_getElem (show j < up.length by omega))
    rw [e1] at e2
    cases e2
    have hmx : max (i : Int) (j : Int) = (j : Int) := by omega
    have hmn : min (i : Int) (j : Int) = (i : Int) := by omega
    have h1 : (i : Int) < (j : Int) := by omega
    have hiu : (j : Int) < (up.length : Int) := by omega
    clear l1 l2 HA HB
    go_wp2
    go_ret
    rw [Nat.max_eq_right (by omega), Nat.min_eq_left (by omega)]
    exact ⟨⟨_, rfl⟩, H2.set e1, (below_drewN' (Below.refl _ _) nq).setCell hg _, by rw [e1]; exact grown_dset w nq g _ _⟩
  · subst hij
    obtain ⟨g', cap', e2, c2, f2, hg⟩ := H.get (List.getElem?_eq_getElem (show i < up.length by omega))
    rw [e1] at e2
    cases e2
    have hiu : (i : Int) < (up.length : Int) := by omega
    clear l1 l2 HA HB
    go_wp2
    go_ret
    rw [Nat.max_self, Nat.min_self]
    exact ⟨⟨_, rfl⟩, H2.set e1, (below_drewN' (Below.refl _ _) nq).setCell hg _, by rw [e1]; exact grown_dset w nq g _ _⟩
end
set_option maxRecDepth 100000 in
/-- 'm[k] = len(..)', run. -/
theorem MapN.runU {w : World} {b : Nat} {ks : List ByteArray} (h : MapN w b ks) (hn : ks.length ≤ 100000) {s : ByteArray} (hs : s.size ≤ maxLen) (hne : s ∉ ks) : ∃ w', (Instr.mapUpdate 57 (.map (some b)) (.string s) (.int .i64 ks.length)).run Try.prog w = .ok () w' ∧ MapN w' b (ks ++ [s]) ∧ w.grownBy w' (some b) := by
  obtain ⟨D, h1, h2, h3⟩ := h
  have hwf : (Lit.int .i64 (ks.length : Int)).wf = true := by simp [Lit.wf, IntKind.min, IntKind.max, IntKind.signed, IntKind.bits]; omega
  obtain ⟨w', hrun, r1, r2⟩ := h1.update lawS Try.underlying57 (by unfold maxLen; omega) (WideMaps.keyOf_string_mk Try.underlying9 hs) (plainElem_int (q := .i64) (a := (ks.length : Int)) Try.underlying3 hwf)
  refine ⟨w', hrun, ⟨_, by simpa using r1, ?_, ?_⟩, r2⟩
  · intro t
    by_cases ht : t = s
    · subst ht
      show has (D.put (kS t) _) (kS t) = _
      rw [has_put_same h1.isMap (by trivial), hasS_snoc]
      simp
    · show has (D.put (kS s) _) (kS t) = _
      rw [has_put_other (fun e => ht (kS_inj e)), h2, hasS_snoc]
      have : (s.data.toList == t.data.toList) = false := by
        simp only [beq_eq_false_iff_ne, ne_eq]
        exact fun e => ht (bytes_inj e).symm
      rw [this, Bool.or_false]
  · intro i t hi z
    show (D.put (kS s) _).atKey (kS t) z = _
    by_cases hl : i < ks.length
    · rw [List.getElem?_append_left hl] at hi
      have : t ≠ s := fun e => hne (e ▸ List.mem_of_getElem? hi)
      rw [atKey_put_other (fun e => this (kS_inj e)), h3 i t hi]
    · rw [List.getElem?_append_right (by omega)] at hi
      obtain rfl : i = ks.length := by
        have := (List.getElem?_eq_some_iff.1 hi).1
        simp at this
        omega
      simp at hi
      subst hi
      rw [atKey_put_same h1.isMap (by trivial)]
def RetSet (w : World) (nodes : List ByteArray) (up : List Nat) (E : Ending) (w' : World) : Prop := ∃ s mb uv, E = .returned (.pointer (some ⟨s, 0, none⟩)) ∧ StsAt w.heap.size w' s mb uv (zero8 :: nodes) up ∧ Below w.heap.size w w'
/-- The string row of a call's own stays where another block is turned. -/
theorem own_kept {w w' : World} {B e size n x : Nat} {v : Value} {xs : List Value} (h : w.ownsRow B e size v n xs) (hg : w.grownBy w' (some x)) (hne : ∀ cs fr, w.heap[x]? ≠ some (.cells cs e fr)) : w'.ownsRow B e size v n xs := by
  refine h.kept hg ?_
  rcases h.2 with ⟨rfl, _⟩ | ⟨g, cap, cur, rfl, _, hg2, _⟩
  · exact .inl rfl
  · refine .inr fun e2 => ?_
    cases e2
    exact hne _ _ hg2
theorem grownBy_set (w : World) (b j : Nat) (u : Value) : w.grownBy (w.setCell ⟨b, j, none⟩ u) (some b) := ⟨rfl, rfl, rfl, by simp [World.setCell], fun k _ hi => Below.heap_setCell _ _ _ _ (fun e => hi (by rw [e]))⟩
theorem StsAt.upd {B : Nat} {w w' : World} {s mb : Nat} {uv : Value} {ks : List ByteArray} {up : List Nat} {x : ByteArray} (h : StsAt B w s mb uv ks up) (hm : MapN w' mb (ks ++ [x])) (hg : w.grownBy w' (some mb)) : StsAt B w' s mb uv (ks ++ [x]) up := by
  have hmb : ∃ es clock, w.heap[mb]? = some (.map es clock) := by
    obtain ⟨D, ⟨es, clock, h1, _⟩, _⟩ := h.m
    exact ⟨es, clock, h1⟩
  obtain ⟨es, clock, hmb⟩ := hmb
  refine ⟨(hg.block s h.lt (fun e => ?_)).trans h.box, hm, own_kept h.row hg fun cs fr e => ?_⟩
  · cases e
    rw [h.box] at hmb
    cases hmb
  · rw [hmb] at e
    cases e
/-- up grows by one, in the box. -/
theorem StsAt.app {B : Nat} {w w' : World} {s mb : Nat} {uv : Value} {ks : List ByteArray} {up : List Nat} {g n cap : Nat} {o : Nat} (h : StsAt B w s mb uv ks up) (hown : w'.ownsRow B 3 1 (.slice (some ⟨g, 0, none⟩) n cap) n ((up ++ [o]).map fun k : Nat => Value.int .i64 (k : Int))) (hg : w.grownBy w' uv.ownBlock) (hat : uv.ownBlock = some g ∨ w.heap.size ≤ g) (hn : n = (up ++ [o]).length) : StsAt B (w'.setCell ⟨s, 1, none⟩ (.slice (some ⟨g, 0, none⟩) n cap)) s mb (.slice (some ⟨g, 0, none⟩) n cap) ks (up ++ [o]) := by
  subst hn
  have hsu : uv.ownBlock ≠ some s := by
    intro e
    rcases h.row.2 with ⟨rfl, _⟩ | ⟨g', cap', cur, rfl, _, hg2, _⟩
    · cases e
    · cases e
      rw [h.box] at hg2
      cases hg2
  have hmu : uv.ownBlock ≠ some mb := by
    intro e
    obtain ⟨D, ⟨es, clock, h1, _⟩, _⟩ := h.m
    rcases h.row.2 with ⟨rfl, _⟩ | ⟨g', cap', cur, rfl, _, hg2, _⟩
    · cases e
    · cases e
      rw [h1] at hg2
      cases hg2
  have hsm : mb ≠ s := by
    intro e
    subst e
    obtain ⟨D, ⟨es, clock, h1, _⟩, _⟩ := h.m
    rw [h.box] at h1
    cases h1
  have hgs : g ≠ s := by
    intro e
    subst e
    rcases hat with h1 | h1
    · exact hsu h1
    · exact Nat.lt_irrefl _ (Nat.lt_of_lt_of_le h.lt h1)
  have hb := (hg.block s h.lt (fun e => hsu e.symm)).trans h.box
  refine ⟨?_, (h.m.kept hg (fun e => hmu e.symm)).setCell hsm _, ?_⟩
  · simp [World.setCell, Array.getElem?_modify, hb]
  · refine hown.kept (grownBy_set w' s 1 _) (.inr fun e => hgs (Option.some.inj e))
theorem StsAt.apartE {B B2 e sz : Nat} {w : World} {s mb : Nat} {uv nv : Value} {ks : List ByteArray} {up : List Nat} {n : Nat} {xs : List Value} (h : StsAt B w s mb uv ks up) (o : w.ownsRow B2 e sz nv n xs) (he : e ≠ 3) : nv.ownBlock = none ∨ nv.ownBlock ≠ uv.ownBlock := by
  rcases o.2 with ⟨rfl, _⟩ | ⟨g, cap, cur, rfl, _, hg, _⟩
  · exact .inl rfl
  · refine .inr fun e1 => ?_
    rcases h.row.2 with ⟨rfl, _⟩ | ⟨g', cap', cur', rfl, _, hg', _⟩
    · cases e1
    · cases e1
      rw [hg] at hg'
      cases hg'
      exact he rfl
theorem StsAt.apart {B B2 : Nat} {w : World} {s mb : Nat} {uv nv : Value} {ks : List ByteArray} {up : List Nat} {n : Nat} {xs : List Value} (h : StsAt B w s mb uv ks up) (o : w.ownsRow B2 9 1 nv n xs) : nv.ownBlock = none ∨ nv.ownBlock ≠ uv.ownBlock := by
  rcases o.2 with ⟨rfl, _⟩ | ⟨g, cap, cur, rfl, _, hg, _⟩
  · exact .inl rfl
  · refine .inr fun e => ?_
    rcases h.row.2 with ⟨rfl, _⟩ | ⟨g', cap', cur', rfl, _, hg', _⟩
    · cases e
    · cases e
      rw [hg] at hg'
      cases hg'
theorem StsAt.box_ne {B : Nat} {w : World} {s mb : Nat} {uv : Value} {ks : List ByteArray} {up : List Nat} (h : StsAt B w s mb uv ks up) : some s ≠ uv.ownBlock := by
  intro e
  rcases h.row.2 with ⟨rfl, _⟩ | ⟨g', cap', cur', rfl, _, hg', _⟩
  · cases e
  · cases e
    rw [h.box] at hg'
    cases hg'
theorem set_app {B B2 : Nat} {w5 X w6 : World} {s mb g m cap n o : Nat} {uv nv : Value} {ks : List ByteArray} {up : List Nat} {xs : List Value} (S5 : StsAt B w5 s mb uv ks up) (o5 : w5.ownsRow B2 9 1 nv n xs) (hX : Below w5.heap.size w5 X) (hown : w6.ownsRow B 3 1 (.slice (some ⟨g, 0, none⟩) m cap) m ((up ++ [o]).map fun k : Nat => Value.int .i64 (k : Int))) (hg : X.grownBy w6 uv.ownBlock) (hat : uv.ownBlock = some g ∨ g = X.heap.size) (hm : m = (up ++ [o]).length) (hB : B ≤ w5.heap.size) (hBs : B ≤ s) :
    w6.cell? ⟨s, 1, none⟩ = some uv ∧ w6.frozen? ⟨s, 1, none⟩ = false ∧ StsAt B (w6.setCell ⟨s, 1, none⟩ (.slice (some ⟨g, 0, none⟩) m cap)) s mb (.slice (some ⟨g, 0, none⟩) m cap) ks (up ++ [o]) ∧ (w6.setCell ⟨s, 1, none⟩ (.slice (some ⟨g, 0, none⟩) m cap)).ownsRow B2 9 1 nv n xs ∧ Below B w5 (w6.setCell ⟨s, 1, none⟩ (.slice (some ⟨g, 0, none⟩) m cap)) ∧ Below B w5 w6 := by
  have SX := S5.below hX
  have oX := owns_below o5 hX
  have hb := (hg.block s SX.lt SX.box_ne).trans SX.box
  have o6 := oX.kept hg (SX.apart oX)
  have h1 : Below B w5 X := hX.mono hB
  have h2 : Below B X w6 := ⟨hg.os, hg.tape, hg.output, hg.size, fun k hk => hg.block k (Nat.lt_of_lt_of_le hk (Nat.le_trans hB hX.size)) (fun e => by
    have := (SX.row.lt k e.symm).1
    omega)⟩
  refine ⟨by simp [World.cell?, hb], by simp [World.frozen?, hb], SX.app hown hg (hat.imp id (fun e => Nat.le_of_eq e.symm)) hm, ?_, (h1.trans h2).setCell hBs _, h1.trans h2⟩
  · refine o6.kept (grownBy_set w6 s 1 _) ?_
    rcases o6.2 with ⟨rfl, _⟩ | ⟨g', cap', cur', rfl, _, hg', _⟩
    · exact .inl rfl
    · refine .inr fun e => ?_
      cases e
      rw [hb] at hg'
      cases hg'
theorem cell_other2 {w : World} {a p : Addr} {u x : Value} (h : w.cell? p = some x) (hne : p.block ≠ a.block) : (w.setCell a u).cell? p = some x := by
  unfold World.cell? at h ⊢
  rw [Below.heap_setCell _ _ _ _ hne]
  exact h
theorem cell_drew2 {w : World} {p : Addr} {x : Option Value} (h : w.cell? p = x) : w.drew.cell? p = x := h
theorem cell_al2 {w : World} {o : Obj} {a : Addr} {x : Value} (h : w.cell? a = some x) : (w.alloc o).cell? a = some x := (World.cell?_alloc_lt _ _ _ (World.block_lt_of_cell? w a h)).trans h
/-- 'append(up, n)' at a step of a region that draws its order. -/
theorem step_app_int {ops : Array Oper} {o : Oper} {a : Act} {K : Act → World → Prop} {Q : Exit → Act → World → Prop} {E : Prop} {w : World} (hgd : o.guard = none) (s x : Operand)
    (ho : o.op = .call { callee := .builtin .append, args := #[s, x], argTypes := #[127, 127] }) (base : Nat) (uv : Value) (n : Nat) (xs : List Value) (b : Nat) (u : Int) (h63 : n ≤ 100000) (hs : a.eval s = uv) (hx : a.eval x = .slice (some ⟨b, 0, none⟩) 1 1)
    (hown : w.ownsRow base 3 1 uv n xs) (hnew : w.cell? ⟨b, 0, none⟩ = some (.int .i64 u)) (hbase : base ≤ w.heap.size)
    (h : ∀ g cap w', w'.ownsRow base 3 1 (.slice (some ⟨g, 0, none⟩) (n + 1) cap) (n + 1) (xs ++ [.int .i64 u]) → w.grownBy w' uv.ownBlock → (uv.ownBlock = some g ∨ g = w.heap.size) → K (a.put o.dst (.slice (some ⟨g, 0, none⟩) (n + 1) cap)) w') :
    if Region.wanted o (yielded ops a.tmps) = true then Oper.wp Try.prog o a w K Q else E := by
  obtain ⟨iC, hi1, hz0, hz1, hz2⟩ := info_parts info_int
  refine step_append_lies w hgd s x _ ho base 3 iC _ 1 8 Try.underlying127 hi1 hz0 hz1 hz2 rfl (by decide) uv n xs hs hown ⟨b, 0, none⟩ 1 1 [.int .i64 u] hx rfl (fun j u' hu => ?_) (by simp [Value.oneCell']) (by decide) (by simp only [maxLen]; omega) (by omega) hbase _ rfl ?_
  · rw [Go.WideShapes.add_plain]
    match j, hu with
    | 0, hu =>
      simp at hu
      subst hu
      exact hnew
    | j + 1, hu => simp at hu
  · intro g cap w' k1 k2 k3 k4
    exact h g cap w' k1 k2 k3
end Go.Proofs.Ytgcakhmdmajplaa
