/- gridworkkit.Element: an element out of bits. No condition. The kit's functions on elements that are made or lent: ElementsOf, CopyElements, marks behind. Conditions: lengths as the reach has them. The kit's functions on elements that are held against others: SameElement, SameElements on what is the same; KeptElements. Conditions: lengths as the reach has them. A net's elements: the netlist's, the law's; what a net's fault tells. Condition: kinds are bytes. What holds of a made net, plainly: its nodes and branches are the elements', none is the ground, no name is empty. No condition. Sameness of reals and numbers, numbers out of bits, the marks: the small functions of the kit and of the reference. Conditions: words have 64 bits. Lists of reals and of whole numbers: the functions of the kit. Conditions: lengths as the reach has them. Half power, in the program: what it gives. Conditions: words have 64 bits; the length as the reach has it. Half power, in the reference: what it gives. Conditions: words have 64 bits; the length as the reach has it. Octaves: a real's power of two, in the program. Condition: words have 64 bits. The examples of the chapter on gains that each statement asks first: they hold. No condition. -/
import Derived.Test.YtfnbohpfcdddgaaNmAM
import Derived.StillTailTactics
import Derived.BigRegion
import Derived.Test.YtfnbohpfcdddgaaR15
import Derived.Test.YtfnbohpfcdddgaaKitCM
import Derived.Test.YtfnbohpfcdddgaaR15O
import Derived.Test.YtfnbohpfcdddgaaNLadM
import Derived.Test.YtfnbohpfcdddgaaGVoltM
import Derived.Deep.RegionWith
import Derived.Test.YtfnbohpfcdddgaaShelf
import Derived.Test.YtfnbohpfcdddgaaAbsM
import Derived.Test.YtfnbohpfcdddgaaPol1M
namespace Go.Proofs.Ytfnbohpfcdddgaa
open Go.RowKit

/-- An element out of bits: its cells. -/
def kC (e : El) : List Value := [.int .u8 e.kind, .string e.name, .string e.a, .string e.b, .string e.c, .string e.d, .int .u64 e.v, .int .i64 e.ph]
def kV (e : El) : Value := .agg (kC e).toArray
theorem size_new (w : World) (o : Obj) : (w.alloc o).heap.size = w.heap.size + 1 := by simp
theorem blk_new2 (w : World) (cs : Array Value) (t : Nat) (o : Obj) : (World.drew ((w.alloc (.cells cs t)).alloc o)).heap[w.heap.size]? = some (.cells cs t (0, 0)) := by
  have h1 : (w.alloc (.cells cs t)).heap[w.heap.size]? = some (.cells cs t (0, 0)) := blk_new w (.cells cs t)
  have h3 := Below.heap_alloc (w.alloc (.cells cs t)) o w.heap.size (by rw [size_new]; omega)
  exact h3.trans h1
set_option maxRecDepth 100000 in
set_option maxHeartbeats 1000000 in
theorem Element_any (e : El) (w : World) : Calls Try.prog 25 #[kV e] w fun E w' => E = .returned (elV e) ∧ Below w.heap.size w w' := by
  show Calls _ _ #[.agg #[.int .u8 e.kind, .string e.name, .string e.a, .string e.b, .string e.c, .string e.d, .int .u64 e.v, .int .i64 e.ph]] _ _
  go_enter Try.func25, Try.ntmps25
  go_wp2
  obtain ⟨wb, hwb⟩ : ∃ wb, wb = World.drew ((w.alloc (.cells #[.int .u8 e.kind, .string e.name, .string e.a, .string e.b, .string e.c, .string e.d, .int .u64 e.v, .int .i64 e.ph] 78)).alloc (.cells #[.int .u8 0, .string ⟨#[]⟩, .string ⟨#[]⟩, .string ⟨#[]⟩, .string ⟨#[]⟩, .string ⟨#[]⟩, .float .f64 0, .int .i64 0] 74)) := ⟨_, rfl⟩
  have hh : wb.heap[w.heap.size]? = some (.cells (kC e).toArray 78 (0, 0)) := by
    rw [hwb]
    exact blk_new2 w _ _ _
  have c0 : wb.cell? ⟨w.heap.size, 0, none⟩ = some (.int .u8 e.kind) := by simp only [World.cell?, hh]; rfl
  have c1 : wb.cell? ⟨w.heap.size, 1, none⟩ = some (.string e.name) := by simp only [World.cell?, hh]; rfl
  have c2 : wb.cell? ⟨w.heap.size, 2, none⟩ = some (.string e.a) := by simp only [World.cell?, hh]; rfl
  have c3 : wb.cell? ⟨w.heap.size, 3, none⟩ = some (.string e.b) := by simp only [World.cell?, hh]; rfl
  have c4 : wb.cell? ⟨w.heap.size, 4, none⟩ = some (.string e.c) := by simp only [World.cell?, hh]; rfl
  have c5 : wb.cell? ⟨w.heap.size, 5, none⟩ = some (.string e.d) := by simp only [World.cell?, hh]; rfl
  have c6 : wb.cell? ⟨w.heap.size, 6, none⟩ = some (.int .u64 e.v) := by simp only [World.cell?, hh]; rfl
  have c7 : wb.cell? ⟨w.heap.size, 7, none⟩ = some (.int .i64 e.ph) := by simp only [World.cell?, hh]; rfl
  have HWB := hid hwb
  (refine wp_region_still_tail 18 (by kernel_rfl) (by kernel_rfl) ?_; simp only [List.take_succ_cons, List.take_zero, List.drop_succ_cons, List.drop_zero]; change wpStill _ _ (World.drew ((w.alloc (.cells #[.int .u8 e.kind, .string e.name, .string e.a, .string e.b, .string e.c, .string e.d, .int .u64 e.v, .int .i64 e.ph] 78)).alloc (.cells #[.int .u8 0, .string ⟨#[]⟩, .string ⟨#[]⟩, .string ⟨#[]⟩, .string ⟨#[]⟩, .string ⟨#[]⟩, .float .f64 0, .int .i64 0] 74))) (fun a' => wpList _ _ _ _ a' (World.drew ((w.alloc (.cells #[.int .u8 e.kind, .string e.name, .string e.a, .string e.b, .string e.c, .string e.d, .int .u64 e.v, .int .i64 e.ph] 78)).alloc (.cells #[.int .u8 0, .string ⟨#[]⟩, .string ⟨#[]⟩, .string ⟨#[]⟩, .string ⟨#[]⟩, .string ⟨#[]⟩, .float .f64 0, .int .i64 0] 74)))) _ _; rw [← hwb]; clear hwb; (repeat still_step); (try refine wpStill_nil ?_))
  rw [HWB.out]
  clear HWB c0 c1 c2 c3 c4 c5 c6 c7 hh
  go_wp2
  refine bodyPost_ret (results_el rfl _ _ (w.heap.size + 1) e rfl ?_) rfl ?_
  · have h3 := blk_new (w.alloc (.cells #[.int .u8 e.kind, .string e.name, .string e.a, .string e.b, .string e.c, .string e.d, .int .u64 e.v, .int .i64 e.ph] 78)) (.cells (elC e).toArray 74)
    rw [size_new] at h3
    exact h3
  · exact ⟨rfl, (((Below.refl _ w).alloc (Nat.le_refl _) _).alloc (by rw [size_new]; omega) _).drew⟩
end Go.Proofs.Ytfnbohpfcdddgaa

namespace Go.Proofs.Ytfnbohpfcdddgaa
open Go.RowKit

/-- A slice of elements as they came in: floats as bits. -/
def KsAt (w : World) (v : Value) (L : List El) : Prop := ∃ a cap, v = .slice a L.length cap ∧ ∀ k e, L[k]? = some e → ∃ b off, a = some ⟨b, off, none⟩ ∧ ∀ j x, (kC e)[j]? = some x → w.cell? ⟨b, off + k * 8 + j, none⟩ = some x
theorem KsAt.below {w w' : World} {v : Value} {L : List El} (h : KsAt w v L) (hb : Below w.heap.size w w') : KsAt w' v L := by
  obtain ⟨a, cap, rfl, hr⟩ := h
  refine ⟨a, cap, rfl, fun k e he => ?_⟩
  obtain ⟨b, off, rfl, hc⟩ := hr k e he
  exact ⟨b, off, rfl, fun j x hx => by rw [hb.cell (World.block_lt_of_cell? _ _ (hc j x hx))]; exact hc j x hx⟩
theorem KsAt.at {w : World} {a : Option Addr} {n cap : Nat} {L : List El} (h : KsAt w (.slice a n cap) L) {k : Nat} {e : El} (he : L[k]? = some e) :
    ∃ b off, a = some ⟨b, off, none⟩ ∧ b < w.heap.size ∧ w.cell? ⟨b, off + k * 8, none⟩ = some (.int .u8 e.kind) ∧ w.cell? ⟨b, off + k * 8 + 1, none⟩ = some (.string e.name) ∧ w.cell? ⟨b, off + k * 8 + 2, none⟩ = some (.string e.a) ∧ w.cell? ⟨b, off + k * 8 + 3, none⟩ = some (.string e.b) ∧ w.cell? ⟨b, off + k * 8 + 4, none⟩ = some (.string e.c) ∧ w.cell? ⟨b, off + k * 8 + 5, none⟩ = some (.string e.d) ∧ w.cell? ⟨b, off + k * 8 + 6, none⟩ = some (.int .u64 e.v) ∧ w.cell? ⟨b, off + k * 8 + 7, none⟩ = some (.int .i64 e.ph) := by
  obtain ⟨a', cap', e1, hr⟩ := h
  cases e1
  obtain ⟨b, off, rfl, hc⟩ := hr k e he
  exact ⟨b, off, rfl, World.block_lt_of_cell? _ _ (hc 0 _ rfl), hc 0 _ rfl, hc 1 _ rfl, hc 2 _ rfl, hc 3 _ rfl, hc 4 _ rfl, hc 5 _ rfl, hc 6 _ rfl, hc 7 _ rfl⟩
def EoLoop (W : World) (L : List El) (i out : Value) (w : World) : Prop := ∃ k : Nat, i = .int .i64 k ∧ k ≤ L.length ∧ w.ownsRow W.heap.size 74 8 out k (cellsL (L.take k)) ∧ Below W.heap.size W w

set_option maxRecDepth 100000 in
set_option maxHeartbeats 4000000 in
theorem ElementsOf_any (L : List El) (v0 : Value) (w : World) (hn : L.length ≤ 1000) (hs : KsAt w v0 L) :
    Calls Try.prog 5 #[v0] w (RetQ w L) := by
  obtain ⟨iE, hiE, hz0, hz1, hz2⟩ := info_parts info_el
  go_enter Try.func5, Try.ntmps5
  go_wp2
  go_loopw [4, 3] (fun i out w' => EoLoop w L i out w') (fun i _ _ => L.length + 1 - (intOf i).toNat)
  case atStart => exact ⟨0, rfl, by omega, World.ownsRow_nil _ _ _ _, Below.refl _ _⟩
  case round =>
    obtain ⟨k, rfl, hk, hown, hb⟩ := hrel
    have hz := hb.size
    have hE := hs.below hb
    have hE2 := hE
    obtain ⟨a, cap, rfl, -⟩ := hE2
    by_cases hkn : k < L.length
    · obtain ⟨e, he⟩ : ∃ e, L[k]? = some e := ⟨L[k]'hkn, List.getElem?_eq_getElem hkn⟩
      obtain ⟨b, off, rfl, hbl, c0, c1, c2, c3, c4, c5, c6, c7⟩ := hE.at he
      have g1 : (k : Int) < (L.length : Int) := by omega
      have HS := hid (el_snoc he)
      clear he hE hs
      have HEL := Element_any e
      unfold kV kC elV elC at HEL
      go_wp2_with (first | (go_at_call 25; (with_reducible refine (HEL _).mono ?_); rintro E w2 ⟨rfl, hb2⟩; have hown2 := owns_below hown hb2; clear hown; have hnew := cells_new w2 (elC e) 74; have hzz := hb2.size) | (at_builtin; go_loud (refine wpList_append_lies _ rfl _ _ 26 rfl w.heap.size 74 iE _ 8 104 Try.underlying26 hiE hz0 hz1 hz2 rfl (by decide) u3 k (cellsL (L.take k)) rfl (by exact hown2.alloc _) ⟨w2.heap.size, 0, none⟩ 1 1 (elC e) rfl rfl (by exact hnew) (by simp [elC, Value.oneCell']) (by decide) (by unfold maxLen; omega) (by omega) (by simp; omega) _ rfl ?_; intro g2 cap2 w7 hown7 hg7 hat7 hlt7)))
      go_roundw
      case rel => exact ⟨k + 1, by go_num, by omega, by rw [HS.out, cellsL_snoc]; exact hown7, Below.grown (bla _ (bl2 hb hb2)) hg7 (by simp; omega) (fun k hk => (hown2.lt k hk).1)⟩
      case measure => simp [intOf] <;> omega
    · obtain rfl : k = L.length := by omega
      rw [List.take_length] at hown
      go_wp2
      go_ret
      exact ⟨_, rfl, hown, hb⟩

set_option maxRecDepth 100000 in
set_option maxHeartbeats 1000000 in
theorem CopyElements_any (L : List El) (v0 : Value) (w : World) (hn : L.length ≤ 2000) (hs : ElsN w v0 L) :
    Calls Try.prog 7 #[v0] w (RetQ w L) := by
  go_enter Try.func7, Try.ntmps7
  go_wp2_with (at_builtin; go_loud (refine wpList_appE rfl _ _ 26 rfl Try.underlying26 w.heap.size (.slice none 0 0) 0 [] v0 L rfl rfl hs (World.ownsRow_nil _ _ _ _) (by omega) (Nat.le_refl _) ?_; intro v' w' h1 h2 h3))
  go_ret
  exact ⟨_, rfl, by simpa using h1, h2⟩

/-- A mark. -/
def markE (i : Nat) : El := ⟨99, ⟨#[]⟩, ⟨#[]⟩, ⟨#[]⟩, ⟨#[]⟩, ⟨#[]⟩, 0, -7007 - (i : Int)⟩
/-- The list that was lent, and the marks behind it. -/
def lentE (L : List El) : List El := L ++ (List.range 6).map markE
theorem lentE_length (L : List El) : (lentE L).length = L.length + 6 := by simp [lentE]
def LeLoop (W : World) (L : List El) (out i : Value) (w : World) : Prop := ∃ k : Nat, i = .int .i64 k ∧ k ≤ 6 ∧ w.ownsRow W.heap.size 74 8 out (L.length + k) (cellsL (L ++ (List.range k).map markE)) ∧ Below W.heap.size W w
end Go.Proofs.Ytfnbohpfcdddgaa

namespace Go.Proofs.Ytfnbohpfcdddgaa
open Go.RowKit

theorem els_at2 {w : World} {b off : Nat} {n cap : Nat} {L : List El} (h : ElsAt w (.slice (some ⟨b, off, none⟩) n cap) L) {k : Nat} {e : El} (he : L[k]? = some e) :
    w.cell? ⟨b, off + k * 8, none⟩ = some (.int .u8 e.kind) ∧ w.cell? ⟨b, off + k * 8 + 1, none⟩ = some (.string e.name) ∧ w.cell? ⟨b, off + k * 8 + 2, none⟩ = some (.string e.a) ∧ w.cell? ⟨b, off + k * 8 + 3, none⟩ = some (.string e.b) ∧ w.cell? ⟨b, off + k * 8 + 4, none⟩ = some (.string e.c) ∧ w.cell? ⟨b, off + k * 8 + 5, none⟩ = some (.string e.d) ∧ w.cell? ⟨b, off + k * 8 + 6, none⟩ = some (.float .f64 e.v) ∧ w.cell? ⟨b, off + k * 8 + 7, none⟩ = some (.int .i64 e.ph) := by
  obtain ⟨b', off', e1, _, h⟩ := h.at he
  cases e1
  exact h
def SeLoop (w : World) (L : List El) (i : Value) (wr : World) : Prop := ∃ k : Nat, k ≤ L.length ∧ i = .int .i64 k ∧ Below w.heap.size w wr
end Go.Proofs.Ytfnbohpfcdddgaa

namespace Go.Proofs.Ytfnbohpfcdddgaa
open Go.RowKit

theorem netG_inl : ∀ (L : List El) (s : NetS) (i : Nat) (f : Int × Int), netG s i L = .inl f → f.1 ≠ 0
  | [], s, i, f, h => by simp [netG] at h
  | e :: r, s, i, f, h => by
    unfold netG at h
    split at h
    · split at h
      · cases h; simp
      · exact netG_inl r _ _ _ h
    · rename_i hc
      cases h
      simpa using hc
theorem netG_inr : ∀ (L : List El) (s s' : NetS) (i : Nat), netG s i L = .inr s' → s'.l = s.l ++ L
  | [], s, s', i, h => by
    simp [netG] at h
    rw [← h, List.append_nil]
  | e :: r, s, s', i, h => by
    unfold netG at h
    split at h
    · split at h
      · cases h
      · rw [netG_inr r _ _ _ h]
        simp [putN]
    · cases h
theorem netF_some {L : List El} {f : Int × Int} {s : NetS} (h : netF L = (f, some s)) : f = (0, 0) ∧ s.l = L := by
  unfold netF at h
  split at h
  · simp at h
  · split at h
    · simp at h
    · rename_i s' hg
      split at h
      · simp at h
      · simp at h
        obtain ⟨rfl, rfl⟩ := h
        exact ⟨rfl, by rw [netG_inr _ _ _ _ hg]; rfl⟩
theorem netF_none {L : List El} {f : Int × Int} (h : netF L = (f, none)) : f.1 ≠ 0 := by
  unfold netF at h
  split at h
  · cases h; simp
  · split at h
    · rename_i f' hg
      cases h
      exact netG_inl _ _ _ _ hg
    · split at h
      · cases h; simp
      · simp at h
set_option maxRecDepth 100000 in
set_option maxHeartbeats 1000000 in
theorem nElements_any {w : World} {B : Nat} {N : NB} {V : NV} {L : List El} {nodes br ks ps bs : List ByteArray} (K : NetR w B N V L nodes br ks ps bs) (hl : L.length ≤ 1000) : Calls Try.prog 62 #[.pointer (some ⟨N.n, 0, none⟩)] w (RetQ w L) := by
  have HN := hid (is_any K)
  have hE := ElsN.of_owns K.L
  obtain ⟨c0, c1, -⟩ := K.cells
  go_enter Try.func62, Try.ntmps62
  go_wp2_with (first | (go_at_call 55; (with_reducible refine HN.out.mono ?_); rintro E1 w1 ⟨rfl, rfl⟩) | (at_builtin; go_loud (refine wpList_appE rfl _ _ 26 rfl Try.underlying26 w1.heap.size (.slice none 0 0) 0 [] V.l L rfl rfl hE (World.ownsRow_nil _ _ _ _) (by omega) (Nat.le_refl _) ?_; intro v' w' h1 h2 h3)))
  go_ret
  exact ⟨_, rfl, by simpa using h1, h2⟩
/-- The elements of a net that may be none. -/
def netL (o : Option NetS) (L : List El) : List El := match o with | none => [] | some _ => L
end Go.Proofs.Ytfnbohpfcdddgaa

namespace Go.Proofs.Ytfnbohpfcdddgaa
open Go.RowKit

theorem checkE_size {e : El} (h : checkE e = 0) : 2 ≤ e.name.size := by
  unfold checkE at h
  split at h
  · rename_i hk
    split at h
    · rename_i hn
      unfold namedE at hn
      simp only [Bool.and_eq_true, decide_eq_true_eq] at hn
      have h1 := hn.1.1.1
      unfold nameK at h1
      split at h1
      · rename_i hl
        unfold lenS at hl
        simp only [Bool.and_eq_true, decide_eq_true_eq] at hl
        exact hl.1.1
      · unfold okK at hk
        simp only [Bool.and_eq_true, decide_eq_true_eq] at hk
        omega
    · cases h
  · cases h
structure GoodN (s : NetS) : Prop where
  nd : s.nodes = nodesF s.l
  br : s.br = brF s.l
  z : hasS s.nodes zero8 = false
  e : hasS (nmL s.l) ⟨#[]⟩ = false
theorem putNode_zero {ns : List ByteArray} {x : ByteArray} (h : hasS ns zero8 = false) : hasS (putNode ns x) zero8 = false := by
  unfold putNode
  split
  · rename_i hn
    rw [hasS_snoc, h, Bool.false_or]
    unfold newNode at hn
    simp only [Bool.and_eq_true] at hn
    cases hx : (x.data.toList == zero8.data.toList)
    · rfl
    · have hx2 : x.toList = [48] := by
        rw [ByteArray.toList_eq]
        exact eq_of_beq hx
      rw [hx2] at hn
      simp at hn
  · exact h
theorem fold_zero : ∀ (xs ns : List ByteArray), hasS ns zero8 = false → hasS (xs.foldl putNode ns) zero8 = false
  | [], ns, h => h
  | x :: xs, ns, h => by
    rw [List.foldl_cons]
    exact fold_zero xs _ (putNode_zero h)
theorem GoodN.put {s : NetS} (h : GoodN s) {e : El} (hc : checkE e = 0) : GoodN (putN s e) := by
  refine ⟨?_, ?_, fold_zero _ _ h.z, ?_⟩
  · show (fourE e).foldl putNode s.nodes = nodesF (s.l ++ [e])
    rw [nodesF_snoc, ← h.nd]
  · show (if brK e.kind = true then s.br ++ [e.name] else s.br) = brF (s.l ++ [e])
    rw [brF_snoc, ← h.br]
  · have hm : nmL (putN s e).l = nmL s.l ++ [e.name] := by simp [nmL, putN]
    rw [hm, hasS_snoc, h.e, Bool.false_or]
    have h2 := checkE_size hc
    cases hx : (e.name.data.toList == (⟨#[]⟩ : ByteArray).data.toList)
    · rfl
    · have h3 := congrArg List.length (eq_of_beq hx)
      have h4 : e.name.data.toList.length = e.name.size := Array.length_toList
      rw [h4] at h3
      have h5 : e.name.size = 0 := h3
      omega
theorem netG_good : ∀ (L : List El) (s s' : NetS) (i : Nat), netG s i L = .inr s' → GoodN s → GoodN s'
  | [], s, s', i, h, g => by
    simp [netG] at h
    rw [← h]
    exact g
  | e :: r, s, s', i, h, g => by
    unfold netG at h
    split at h
    · rename_i hc
      split at h
      · cases h
      · exact netG_good r _ _ _ h (g.put hc)
    · cases h
theorem netF_good {L : List El} {f : Int × Int} {s : NetS} (h : netF L = (f, some s)) : GoodN s ∧ s.nodes.length ≤ 32 ∧ s.nodes.length + s.br.length ≤ 64 ∧ L.length ≤ 256 := by
  unfold netF at h
  split at h
  · simp at h
  · rename_i hlen
    split at h
    · simp at h
    · rename_i s' hg
      split at h
      · simp at h
      · rename_i hs
        simp at h
        obtain ⟨rfl, rfl⟩ := h
        exact ⟨netG_good _ _ _ _ hg ⟨rfl, rfl, rfl, rfl⟩, by omega, by omega, by omega⟩
end Go.Proofs.Ytfnbohpfcdddgaa

namespace Go.Proofs.Ytfnbohpfcdddgaa
open Go.RowKit

theorem Dr.row {w w' : World} (h : Dr w w') {a : Option Addr} {xs : List Value} (hr : Row w a xs) : Row w' a xs := by
  obtain ⟨n, rfl⟩ := h
  exact hr

end Go.Proofs.Ytfnbohpfcdddgaa

namespace Go.Proofs.Ytfnbohpfcdddgaa
open Go.RowKit

def RetLE (w : World) (e0 : Nat) (xs : List Value) (n : Int) (e : Ending) (w' : World) : Prop := ∃ v, e = .returned (.tuple #[v, .int .i64 n]) ∧ w'.ownsRow w.heap.size e0 1 v xs.length xs ∧ Below w.heap.size w w'
def FloatsLoop (w : World) (l : List Nat) (v i : Value) (wr : World) : Prop := ∃ k : Nat, k ≤ l.length ∧ i = .int .i64 k ∧ wr.ownsRow w.heap.size 40 1 v k ((l.take k).map F) ∧ Below w.heap.size w wr

def lentR (l : List Nat) : List Nat := l ++ (List.range 6).map markB
theorem lentR_length (l : List Nat) : (lentR l).length = l.length + 6 := by simp [lentR]
def LentLoopR (w : World) (l : List Nat) (v i : Value) (wr : World) : Prop := ∃ k : Nat, k ≤ 6 ∧ i = .int .i64 k ∧ wr.ownsRow w.heap.size 40 1 v (l.length + k) ((l ++ (List.range k).map markB).map F) ∧ Below w.heap.size w wr

/-- Are two lists the same, real by real? -/
def sameL (xs ys : List Nat) : Bool := decide (xs.map val = ys.map val)
theorem sameL_self (xs : List Nat) : sameL xs xs = true := by simp [sameL]
def SameLoopR (w : World) (xs ys : List Nat) (i : Value) (wr : World) : Prop := ∃ k : Nat, k ≤ xs.length ∧ i = .int .i64 k ∧ (∀ j, j < k → (xs[j]?).map val = (ys[j]?).map val) ∧ Dr w wr
theorem sameL_true {xs ys : List Nat} (h : xs.length = ys.length) (hs : ∀ j, j < xs.length → (xs[j]?).map val = (ys[j]?).map val) : sameL xs ys = true := by
  unfold sameL
  rw [decide_eq_true_eq]
  apply List.ext_getElem?
  intro j
  rw [List.getElem?_map, List.getElem?_map]
  by_cases hj : j < xs.length
  · exact hs j hj
  · rw [List.getElem?_eq_none (by omega), List.getElem?_eq_none (by omega)]
theorem sameL_len {xs ys : List Nat} (h : xs.length ≠ ys.length) : sameL xs ys = false := by
  unfold sameL
  rw [decide_eq_false_iff_not]
  intro e
  have := congrArg List.length e
  simp at this
  exact h this
theorem sameL_at {xs ys : List Nat} {j x y : Nat} (hx : xs[j]? = some x) (hy : ys[j]? = some y) (h : same (val x) (val y) = false) : sameL xs ys = false := by
  unfold sameL
  rw [decide_eq_false_iff_not]
  intro e
  have := congrArg (fun l => l[j]?) e
  simp [hx, hy] at this
  simp [same, this] at h

set_option maxRecDepth 100000 in
set_option maxHeartbeats 400000 in
theorem SameReals_any (xs ys : List Nat) (va vb : Value) (w : World) (hn : xs.length ≤ 140737488355328) (_hm : ys.length ≤ 140737488355328) (ha : Sl w va (xs.map F)) (hb : Sl w vb (ys.map F)) :
    Calls Try.prog 17 #[va, vb] w (RetB w (sameL xs ys)) := by
  obtain ⟨a, ca, rfl, hra, _, _⟩ := ha
  obtain ⟨b, cb, rfl, hrb, _, _⟩ := hb
  simp only [List.length_map]
  by_cases hl : xs.length = ys.length
  · have hl1 : ((xs.length : Int) != (ys.length : Int)) = false := by rw [hl]; simp
    have HL := hid hl
    clear hl
    go_enter Try.func17, Try.ntmps17
    go_wp2
    clear hl1
    go_loopw [5] (SameLoopR w xs ys) (fun i _ => xs.length - (intOf i).toNat)
    case atStart => exact ⟨0, Nat.zero_le _, rfl, by omega, (by first | with_reducible exact Dr.mk _ _ | with_reducible exact Dr.refl _)⟩
    case round =>
      obtain ⟨k, hk, rfl, hs, hd⟩ := hrel
      have Hs := hid hs
      have Hd := hid hd
      clear hs hd
      by_cases hlt : k < xs.length
      · have hlt2 : k < ys.length := by rw [← HL.out]; exact hlt
        obtain ⟨x, hx⟩ : ∃ x, xs[k]? = some x := ⟨_, List.getElem?_eq_getElem hlt⟩
        obtain ⟨y, hy⟩ : ∃ y, ys[k]? = some y := ⟨_, List.getElem?_eq_getElem hlt2⟩
        obtain ⟨ba, offa, rfl, hca⟩   := (Hd.out.row hra).at (k := k) (x := F x) (by simp [hx])
        obtain ⟨bb, offb, rfl, hcb⟩   := (Hd.out.row hrb).at (k := k) (x := F y) (by simp [hy])
        have hcx := hca k (F x) (by simp [hx])
        have hcy := hcb k (F y) (by simp [hy])
        have HX := hid hx
        have HY := hid hy
        clear hca hcb hra hrb hx hy
        unfold F at hcx hcy
        cases hxy : same (val x) (val y)
        · go_wp2
          go_quiet ((go_at_call 43; exact Calls.quiet_of_same ((kSameReal_any _ _ _).mono fun _ _ h => ⟨h.1, h.2.symm⟩)))
          go_wp2
          go_ret
          rw [sameL_at HX.out HY.out hxy]
          exact ⟨rfl, (by first | with_reducible exact Hd.out | with_reducible exact Dr.trans Hd.out (Dr.mk _ _))⟩
        · go_wp2
          go_quiet ((go_at_call 43; exact Calls.quiet_of_same ((kSameReal_any _ _ _).mono fun _ _ h => ⟨h.1, h.2.symm⟩)))
          go_wp2
          go_roundw
          case rel =>
            refine ⟨k + 1, by omega, by go_num, fun j hj => ?_, (by first | with_reducible exact Hd.out | with_reducible exact Dr.trans Hd.out (Dr.mk _ _))⟩
            by_cases hjk : j = k
            · subst hjk
              rw [HX.out, HY.out]
              simpa [same] using hxy
            · exact Hs.out j (by omega)
          case measure => simp [intOf]; omega
      · obtain rfl : k = xs.length := by omega
        go_wp2
        go_ret
        rw [sameL_true HL.out Hs.out]
        exact ⟨rfl, (by first | with_reducible exact Hd.out | with_reducible exact Dr.trans Hd.out (Dr.mk _ _))⟩
  · have hl1 : ((xs.length : Int) != (ys.length : Int)) = true := by rw [bne_iff_ne]; omega
    go_enter Try.func17, Try.ntmps17
    go_wp2
    go_ret
    rw [sameL_len hl]
    exact ⟨rfl, (by first | with_reducible exact Dr.mk _ _ | with_reducible exact Dr.refl _)⟩

def isameLoop (w : World) (xs ys : List Int) (i : Value) (wr : World) : Prop := ∃ k : Nat, k ≤ xs.length ∧ i = .int .i64 k ∧ (∀ j, j < k → xs[j]? = ys[j]?) ∧ Dr w wr
theorem list_eq_of {α : Type} {xs ys : List α} (h : xs.length = ys.length) (hs : ∀ j, j < xs.length → xs[j]? = ys[j]?) : xs = ys := by
  apply List.ext_getElem?
  intro j
  by_cases hj : j < xs.length
  · exact hs j hj
  · rw [List.getElem?_eq_none (by omega), List.getElem?_eq_none (by omega)]

set_option maxRecDepth 100000 in
set_option maxHeartbeats 400000 in
theorem SameInts_any (xs ys : List Int) (va vb : Value) (w : World) (hn : xs.length ≤ 140737488355328) (_hm : ys.length ≤ 140737488355328) (ha : Sl w va (xs.map I)) (hb : Sl w vb (ys.map I)) :
    Calls Try.prog 24 #[va, vb] w (RetB w (decide (xs = ys))) := by
  obtain ⟨a, ca, rfl, hra, _, _⟩ := ha
  obtain ⟨b, cb, rfl, hrb, _, _⟩ := hb
  simp only [List.length_map]
  by_cases hl : xs.length = ys.length
  · have hl1 : ((xs.length : Int) != (ys.length : Int)) = false := by rw [hl]; simp
    have HL := hid hl
    clear hl
    go_enter Try.func24, Try.ntmps24
    go_wp2
    clear hl1
    go_loopw [5] (isameLoop w xs ys) (fun i _ => xs.length - (intOf i).toNat)
    case atStart => exact ⟨0, Nat.zero_le _, rfl, by omega, (by first | with_reducible exact Dr.mk _ _ | with_reducible exact Dr.refl _)⟩
    case round =>
      obtain ⟨k, hk, rfl, hs, hd⟩ := hrel
      have Hs := hid hs
      have Hd := hid hd
      clear hs hd
      by_cases hlt : k < xs.length
      · have hlt2 : k < ys.length := by rw [← HL.out]; exact hlt
        obtain ⟨x, hx⟩ : ∃ x, xs[k]? = some x := ⟨_, List.getElem?_eq_getElem hlt⟩
        obtain ⟨y, hy⟩ : ∃ y, ys[k]? = some y := ⟨_, List.getElem?_eq_getElem hlt2⟩
        obtain ⟨ba, offa, rfl, hca⟩   := (Hd.out.row hra).at (k := k) (x := I x) (by simp [hx])
        obtain ⟨bb, offb, rfl, hcb⟩   := (Hd.out.row hrb).at (k := k) (x := I y) (by simp [hy])
        have hcx := hca k (I x) (by simp [hx])
        have hcy := hcb k (I y) (by simp [hy])
        have HX := hid hx
        have HY := hid hy
        clear hca hcb hra hrb hx hy
        unfold I at hcx hcy
        cases hxy : (x != y)
        · go_wp2
          go_quiet (fail)
          go_wp2
          go_roundw
          case rel =>
            refine ⟨k + 1, by omega, by go_num, fun j hj => ?_, (by first | with_reducible exact Hd.out | with_reducible exact Dr.trans Hd.out (Dr.mk _ _))⟩
            by_cases hjk : j = k
            · subst hjk
              rw [HX.out, HY.out]
              simpa using hxy
            · exact Hs.out j (by omega)
          case measure => simp [intOf]; omega
        · go_wp2
          go_quiet (fail)
          go_wp2
          go_ret
          rw [show decide (xs = ys) = false from decide_eq_false fun e => by have h := HX.out; rw [e, HY.out] at h; cases h; simp at hxy]
          exact ⟨rfl, (by first | with_reducible exact Hd.out | with_reducible exact Dr.trans Hd.out (Dr.mk _ _))⟩
      · obtain rfl : k = xs.length := by omega
        go_wp2
        go_ret
        rw [show decide (xs = ys) = true from decide_eq_true (list_eq_of HL.out Hs.out)]
        exact ⟨rfl, (by first | with_reducible exact Hd.out | with_reducible exact Dr.trans Hd.out (Dr.mk _ _))⟩
  · have hl1 : ((xs.length : Int) != (ys.length : Int)) = true := by rw [bne_iff_ne]; omega
    go_enter Try.func24, Try.ntmps24
    go_wp2
    go_ret
    rw [show decide (xs = ys) = false from decide_eq_false fun e => hl (by rw [e])]
    exact ⟨rfl, (by first | with_reducible exact Dr.mk _ _ | with_reducible exact Dr.refl _)⟩
end Go.Proofs.Ytfnbohpfcdddgaa

namespace Go.Proofs.Ytfnbohpfcdddgaa
open Go.RowKit

def HalfLoop (w : World) (l : List Nat) (low best i : Value) (wr : World) : Prop := ∃ (k r : Nat), k ≤ l.length ∧ i = .int .i64 k ∧ low = .bool (((l.take k).map val).any fun x => flt x (val 0)) ∧ best = .float .f64 r ∧
  val r = halfM ((l.take k).map val) ∧ IsW r ∧ ((l.take k).map val).all fin = true ∧ Dr w wr
def HalfLoop2 (w : World) (l : List Nat) (h : Option Nat) (v i : Value) (wr : World) : Prop := ∃ k : Nat, 1 ≤ k ∧ (k ≤ l.length ∨ k = 1) ∧ i = .int .i64 k ∧ wr.ownsRow w.heap.size 3 1 v (halfP (l.map val) h k).length ((halfP (l.map val) h k).map I) ∧ Below w.heap.size w wr

theorem Dr.below {w w' : World} (h : Dr w w') : Below w.heap.size w w' := by
  obtain ⟨n, rfl⟩ := h
  exact below_drewN' (Below.refl _ _) n

theorem RetLE_nil (w : World) (e0 : Nat) (n : Int) {w' : World} (h : Below w.heap.size w w') : RetLE w e0 [] n (.returned (.tuple #[.slice none 0 0, .int .i64 n])) w' :=
  ⟨_, rfl, World.ownsRow_nil _ _ _ _, h⟩

set_option maxRecDepth 100000 in
set_option maxHeartbeats 4000000 in
theorem Half_any (l : List Nat) (v0 : Value) (w : World) (hn : l.length ≤ 140737488355328) (hw : ∀ b ∈ l, IsW b) (hs : Sl w v0 (l.map F)) :
    Calls Try.prog 22 #[v0] w (RetLE w 3 ((halfL (l.map val)).map I) (halfE (l.map val))) := by
  obtain ⟨a, cap, rfl, hra, _, _⟩ := hs
  simp only [List.length_map]
  by_cases hlong : 4096 < l.length
  · rw [show halfE (l.map val) = 3 from by simp [halfE, hlong], show halfL (l.map val) = [] from by simp [halfL, halfE, hlong]]
    go_enter Try.func22, Try.ntmps22
    go_wp2
    go_ret2
    exact RetLE_nil _ _ _ (Below.refl _ _)
  · have HW := hid hw
    clear hw
    obtain ⟨res, hres⟩ : ∃ res, halfL (l.map val) = res := ⟨_, rfl⟩
    obtain ⟨en, hen⟩ : ∃ en, halfE (l.map val) = en := ⟨_, rfl⟩
    rw [hres, hen]
    have Hres := hid hres
    have Hen := hid hen
    clear hres hen
    go_enter Try.func22, Try.ntmps22
    go_wp2
    go_loopw [4, 5, 16] (HalfLoop w l) (fun _ _ i _ => l.length - (intOf i).toNat)
    case atStart => exact ⟨0, _, Nat.zero_le _, rfl, rfl, rfl, rfl, isW_0, rfl, (by first | with_reducible exact Dr.mk _ _ | with_reducible exact Dr.refl _)⟩
    case round =>
      obtain ⟨k, r, hk, rfl, rfl, rfl, hv, hwr, hfin, hd⟩ := hrel
      have Hd := hid hd
      have Hv := hid hv
      have Hf := hid hfin
      clear hd hv hfin
      obtain ⟨low, hlow⟩ : ∃ low, low = ((l.take k).map val).any fun x => flt x (val 0) := ⟨_, rfl⟩
      rw [← hlow]
      have HL := hid hlow
      clear hlow
      by_cases hlt : k < l.length
      · obtain ⟨x, hx⟩ : ∃ x, l[k]? = some x := ⟨_, List.getElem?_eq_getElem hlt⟩
        obtain ⟨b, off, rfl, hc⟩ := (Hd.out.row hra).at (k := k) (x := F x) (by simp [hx])
        have hcx := hc k (F x) (by simp [hx])
        have hwx : IsW x := HW.out x (List.mem_of_getElem? hx)
        have HX := hid hx
        clear hc hra hx
        unfold F at hcx
        by_cases hf : feq (fsub (val x) (val x)) (val 0) = true
        · cases low
          all_goals
            go_wp2_with (first | ((with_reducible refine upon_fadd ?_); intro r n hr hl) | ((with_reducible refine upon_fsub ?_); intro r n hr hl) | ((with_reducible refine upon_fmul ?_); intro r n hr hl) | ((with_reducible refine upon_fdiv ?_); intro r n hr hl) | ((with_reducible refine upon_fmax (by assumption) (by assumption) ?_); intro r n hr hl) | ((with_reducible refine upon_fmin (by assumption) (by assumption) ?_); intro r n hr hl))
            go_roundw
            case rel =>
              have hsn := take_snoc HX.out
              refine ⟨k + 1, _, by omega, by go_num, ?_, rfl, ?_, by assumption, ?_, (by first | with_reducible exact Hd.out | with_reducible exact Dr.trans Hd.out (Dr.mk _ _))⟩
              · have h := HL.out
                rw [hsn, List.map_append, List.any_append, ← h]
                simp
              · rw [hsn, List.map_append, halfM, List.foldl_append]
                have h := Hv.out
                unfold halfM at h
                rw [← h]
                simpa using hr
              · rw [hsn, List.map_append, List.all_append, Hf.out]
                simp [fin, hf]
            case measure => simp [intOf]; omega
        · simp only [Bool.not_eq_true] at hf
          go_wp2_with (first | ((with_reducible refine upon_fadd ?_); intro r n hr hl) | ((with_reducible refine upon_fsub ?_); intro r n hr hl) | ((with_reducible refine upon_fmul ?_); intro r n hr hl) | ((with_reducible refine upon_fdiv ?_); intro r n hr hl) | ((with_reducible refine upon_fmax (by assumption) (by assumption) ?_); intro r n hr hl) | ((with_reducible refine upon_fmin (by assumption) (by assumption) ?_); intro r n hr hl))
          go_ret2
          have hnf : (l.map val).all fin = false := by
            rw [List.all_eq_false]
            exact ⟨val x, List.mem_map.2 ⟨x, List.mem_of_getElem? HX.out, rfl⟩, by simp [fin, hf]⟩
          rw [← Hen.out, ← Hres.out, show halfE (l.map val) = 5 from by simp [halfE, hlong, hnf], show halfL (l.map val) = [] from by simp [halfL, halfE, hlong, hnf]]
          exact RetLE_nil _ _ _ (below_drewN' Hd.out.below _)
      · obtain rfl : k = l.length := by omega
        have ht : l.take l.length = l := List.take_length
        cases low
        · go_wp2_with (first | ((with_reducible refine upon_fadd ?_); intro r n hr hl) | ((with_reducible refine upon_fsub ?_); intro r n hr hl) | ((with_reducible refine upon_fmul ?_); intro r n hr hl) | ((with_reducible refine upon_fdiv ?_); intro r n hr hl) | ((with_reducible refine upon_fmax (by assumption) (by assumption) ?_); intro r n hr hl) | ((with_reducible refine upon_fmin (by assumption) (by assumption) ?_); intro r n hr hl))
          go_loopw [9, 10] (HalfLoop2 w l (fdiv (halfM (l.map val)) (val 4611686018427387904))) (fun _ i _ => l.length - (intOf i).toNat)
          case atStart => exact ⟨1, by omega, .inr rfl, rfl, by rw [halfP_one]; exact World.ownsRow_nil _ _ _ _, below_drewN' Hd.out.below _⟩
          case round =>
            have hrh := hr
            rw [Hv.out, ht] at hrh
            have HRH := hid hrh
            clear hrh hr
            obtain ⟨k, hk1, hk2, rfl, hown, hb⟩ := hrel
            obtain ⟨j, rfl⟩ : ∃ j, k = j + 1 := ⟨k - 1, by omega⟩
            have hz := hb.size
            have hpl := halfP_length (l.map val) (fdiv (halfM (l.map val)) (val 4611686018427387904)) (j + 1)
            by_cases hlt : j + 1 < l.length
            · obtain ⟨x, hx⟩ : ∃ x, l[j]? = some x := ⟨_, List.getElem?_eq_getElem (by omega)⟩
              obtain ⟨y, hy⟩ : ∃ y, l[j + 1]? = some y := ⟨_, List.getElem?_eq_getElem hlt⟩
              obtain ⟨b, off, rfl, hc⟩ := (hra.below hb).at (k := j) (x := F x) (by simp [hx])
              have hcx := hc j (F x) (by simp [hx])
              have hcy := hc (j + 1) (F y) (by simp [hy])
              have HX := hid hx
              have HY := hid hy
              clear hc hra hx hy
              unfold F at hcx hcy
              have e1 : IntKind.i64.wrap (j : Int) = (j : Int) := IntWalk.i64_in _ (by omega)
              have e2 : ((j : Int) + 1).toNat = j + 1 := by omega
              have e3 : (0 : Int) ≤ (j : Int) + 1 := by omega
              have e4 : (j : Int) < (l.length : Int) := by omega
              have hat : halfAt (l.map val) (fdiv (halfM (l.map val)) (val 4611686018427387904)) (j + 1) = (flt (val x) (val r) != flt (val y) (val r)) := by
                simp [halfAt, HX.out, HY.out, HRH.out]
              have HAT := hid hat
              clear hat
              by_cases hsame : flt (val x) (val r) = flt (val y) (val r)
              · have hd : (!(flt (val x) (val r) == flt (val y) (val r))) = false := by simp [hsame]
                have hat2 : halfAt (l.map val) (fdiv (halfM (l.map val)) (val 4611686018427387904)) (j + 1) = false := by rw [HAT.out, hsame]; simp
                have HAT2 := hid hat2
                clear hsame HAT hat2
                go_wp2
                go_quiet (fail)
                go_wp2
                go_roundw
                case rel => exact ⟨j + 1 + 1, by omega, .inl (by omega), by go_num, by rw [halfP_succ, HAT2.out]; simpa using owns_drewN hown nq, below_drewN' hb _⟩
                case measure => simp [intOf]; omega
              · have hd : (!(flt (val x) (val r) == flt (val y) (val r))) = true := by simpa using hsame
                have hat2 : halfAt (l.map val) (fdiv (halfM (l.map val)) (val 4611686018427387904)) (j + 1) = true := by rw [HAT.out]; simpa using hsame
                have HAT2 := hid hat2
                clear hsame HAT hat2
                go_wp2
                go_quiet (fail)
                clear e1 e2 e3 e4
                go_wp2_with (at_builtin; refine wpList_app1 rfl _ _ 66 rfl w.heap.size 3 _ 8 Try.underlying66 info_int rfl _ _ _ (I ((j : Int) + 1)) rfl rfl rfl (by exact hown) (by first | omega | (simp; omega)) (by first | omega | (simp; omega)) (by first | omega | (simp; omega)) ?_; intro v' w' h1 h2 h3)
                go_roundw
                case rel => exact ⟨j + 1 + 1, by omega, .inl (by omega), by go_num, by rw [halfP_succ, HAT2.out]; simpa using h1, hb.trans (below_of_drewN h2)⟩
                case measure => simp [intOf]; omega
            · go_wp2
              go_ret2
              have hE : halfE (l.map val) = 0 := by
                have h := HL.out
                rw [ht] at h
                have h2 := Hf.out
                rw [ht] at h2
                simp [halfE, hlong, h2, ← h]
              have hL : halfL (l.map val) = halfP (l.map val) (fdiv (halfM (l.map val)) (val 4611686018427387904)) (j + 1) := by
                unfold halfL
                rw [if_pos hE, List.length_map]
                rcases hk2 with h | h
                · rw [show l.length = j + 1 from by omega]
                · obtain rfl : j = 0 := by omega
                  rcases Nat.lt_or_ge 0 l.length with h | h
                  · rw [show l.length = 0 + 1 from by omega]
                  · rw [show l.length = 0 from by omega, halfP_zero, halfP_one]
              rw [← Hen.out, ← Hres.out, hE, hL]
              exact ⟨_, rfl, by rw [List.length_map]; exact hown, hb⟩
        · go_wp2_with (first | ((with_reducible refine upon_fadd ?_); intro r n hr hl) | ((with_reducible refine upon_fsub ?_); intro r n hr hl) | ((with_reducible refine upon_fmul ?_); intro r n hr hl) | ((with_reducible refine upon_fdiv ?_); intro r n hr hl) | ((with_reducible refine upon_fmax (by assumption) (by assumption) ?_); intro r n hr hl) | ((with_reducible refine upon_fmin (by assumption) (by assumption) ?_); intro r n hr hl))
          go_ret2
          have h := HL.out
          rw [ht] at h
          have h2 := Hf.out
          rw [ht] at h2
          rw [← Hen.out, ← Hres.out, show halfE (l.map val) = 2 from by simp [halfE, hlong, h2, ← h], show halfL (l.map val) = [] from by simp [halfL, halfE, hlong, h2, ← h]]
          exact RetLE_nil _ _ _ Hd.out.below
end Go.Proofs.Ytfnbohpfcdddgaa

namespace Go.Proofs.Ytfnbohpfcdddgaa
open Go.RowKit

def rHalfA (w : World) (l : List Nat) (i : Value) (wr : World) : Prop := ∃ k : Nat, k ≤ l.length ∧ i = .int .i64 k ∧ ((l.take k).map val).all fin = true ∧ Dr w wr
def rHalfB (w : World) (l : List Nat) (best i : Value) (wr : World) : Prop := ∃ (k r : Nat), k ≤ l.length ∧ i = .int .i64 k ∧ best = .float .f64 r ∧
  val r = halfM ((l.take k).map val) ∧ IsW r ∧ (((l.take k).map val).any fun x => flt x (val 0)) = false ∧ Dr w wr

end Go.Proofs.Ytfnbohpfcdddgaa

namespace Go.Proofs.Ytfnbohpfcdddgaa
open Go.RowKit

theorem above_any (x : Nat) (w : World) :
    Calls Try.prog 47 #[.float .f64 x] w (RetE w (aboveE (val x))) := by
  by_cases h : feq (fsub (val x) (val x)) (val 0) = true
  · by_cases h2 : flt (val 0) (val x) = true
    · rw [show aboveE (val x) = 0 from by simp [aboveE, fin, h, h2]]
      go_enter Try.func47, Try.ntmps47
      go_wp2_with (first | ((with_reducible refine upon_fadd ?_); intro r n hr hl) | ((with_reducible refine upon_fsub ?_); intro r n hr hl) | ((with_reducible refine upon_fmul ?_); intro r n hr hl) | ((with_reducible refine upon_fdiv ?_); intro r n hr hl) | ((with_reducible refine upon_fmax (by assumption) (by assumption) ?_); intro r n hr hl) | ((with_reducible refine upon_fmin (by assumption) (by assumption) ?_); intro r n hr hl))
      go_ret
      exact ⟨rfl, (by first | with_reducible exact Dr.mk _ _ | with_reducible exact Dr.refl _)⟩
    · simp only [Bool.not_eq_true] at h2
      rw [show aboveE (val x) = 2 from by simp [aboveE, fin, h, h2]]
      go_enter Try.func47, Try.ntmps47
      go_wp2_with (first | ((with_reducible refine upon_fadd ?_); intro r n hr hl) | ((with_reducible refine upon_fsub ?_); intro r n hr hl) | ((with_reducible refine upon_fmul ?_); intro r n hr hl) | ((with_reducible refine upon_fdiv ?_); intro r n hr hl) | ((with_reducible refine upon_fmax (by assumption) (by assumption) ?_); intro r n hr hl) | ((with_reducible refine upon_fmin (by assumption) (by assumption) ?_); intro r n hr hl))
      go_ret
      exact ⟨rfl, (by first | with_reducible exact Dr.mk _ _ | with_reducible exact Dr.refl _)⟩
  · simp only [Bool.not_eq_true] at h
    rw [show aboveE (val x) = 5 from by simp [aboveE, fin, h]]
    go_enter Try.func47, Try.ntmps47
    go_wp2_with (first | ((with_reducible refine upon_fadd ?_); intro r n hr hl) | ((with_reducible refine upon_fsub ?_); intro r n hr hl) | ((with_reducible refine upon_fmul ?_); intro r n hr hl) | ((with_reducible refine upon_fdiv ?_); intro r n hr hl) | ((with_reducible refine upon_fmax (by assumption) (by assumption) ?_); intro r n hr hl) | ((with_reducible refine upon_fmin (by assumption) (by assumption) ?_); intro r n hr hl))
    go_ret
    exact ⟨rfl, (by first | with_reducible exact Dr.mk _ _ | with_reducible exact Dr.refl _)⟩

def octK (b : Nat) : Int := if 0 < b / 4503599627370496 then (b / 4503599627370496 : Nat) - 1023 else (Lib.bitLen b : Int) - 1075
def octM (b : Nat) : Int := if aboveE (val b) = 0 then octK b else 0

theorem Len64_any (x : Nat) (w : World) (hx : IsW x) :
    Calls Try.prog 49 #[.int .u64 (x : Int)] w fun e w' => e = .returned (.int .i64 (Lib.bitLen x)) ∧ w = w' := by
  unfold IsW at hx
  have h := Try.bits_Len64 (x : Int) w (by omega) (by omega)
  rw [Int.toNat_natCast] at h
  exact h.mono fun e w' ⟨h1, h2⟩ => ⟨h1, h2.symm⟩

theorem bitLenAux_le (f : Nat) : ∀ x, Lib.bitLenAux f x ≤ f := by
  induction f with
  | zero => intro x; simp [Lib.bitLenAux]
  | succ f ih =>
    intro x
    simp only [Lib.bitLenAux]
    split
    · omega
    · have := ih (x / 2); omega
theorem bitLen_le (x : Nat) : Lib.bitLen x ≤ 64 := bitLenAux_le 64 x

theorem Octave_any (x : Nat) (w : World) (hx : IsW x) :
    Calls Try.prog 23 #[.float .f64 x] w fun e w' => e = .returned (.tuple #[.int .i64 (octM x), .int .i64 (aboveE (val x))]) ∧ Dr w w' := by
  by_cases h : aboveE (val x) = 0
  · have HX := hid hx
    obtain ⟨q, hq⟩ : ∃ q, q = x / 4503599627370496 := ⟨_, rfl⟩
    have hq1 : (x : Int) / 4503599627370496 = (q : Int) := by omega
    have hq2 : q < 4096 := by unfold IsW at hx; omega
    have ho : octM x = if 0 < q then (q : Int) - 1023 else (Lib.bitLen x : Int) - 1075 := by
      simp [octM, h, octK, ← hq]
    rw [ho]
    have hbl := bitLen_le x
    have h3 : (aboveE (val x) != 0) = false := by simp [h]
    have H := hid h
    clear hx hq h ho
    by_cases hp : 0 < q
    · rw [if_pos hp]
      go_enter Try.func23, Try.ntmps23
      go_wp2_with (first | (go_at_call 47; refine (above_any _ _).mono ?_; rintro e w' ⟨rfl, n, rfl⟩))
      go_ret2
      exact ⟨by rw [H.out]; simp, (by first | with_reducible exact Dr.mk _ _ | with_reducible exact Dr.refl _)⟩
    · rw [if_neg hp]
      go_enter Try.func23, Try.ntmps23
      go_wp2_with (first | (go_at_call 47; refine (above_any _ _).mono ?_; rintro e w' ⟨rfl, n, rfl⟩) | (go_at_call 49; refine (Len64_any _ _ HX.out).mono ?_; rintro e w' ⟨rfl, rfl⟩))
      go_ret2
      exact ⟨by rw [H.out]; simp, (by first | with_reducible exact Dr.mk _ _ | with_reducible exact Dr.refl _)⟩
  · rw [show octM x = 0 from by simp [octM, h]]
    have h2 : (aboveE (val x) != 0) = true := by simp [h]
    clear h
    go_enter Try.func23, Try.ntmps23
    go_wp2_with (first | (go_at_call 47; refine (above_any _ _).mono ?_; rintro e w' ⟨rfl, n, rfl⟩))
    go_ret2
    exact ⟨rfl, (by first | with_reducible exact Dr.mk _ _ | with_reducible exact Dr.refl _)⟩
end Go.Proofs.Ytfnbohpfcdddgaa

namespace Go.Proofs.Ytfnbohpfcdddgaa
open Go.RowKit

theorem lv1 : ofE (cv 0 4611686018427387904) (cv 4607182418800017408 0) = 0 ∧ ofG (cv 0 4611686018427387904) (cv 4607182418800017408 0) = (some 0, some 4611686018427387904) := by decide +kernel
def lvL : List Nat := [4607182418800017408, 4616189618054758400, 4613937818241073152, 4607182418800017408, 4611686018427387904, 0]
theorem lv2 : halfE (lvL.map val) = 0 ∧ halfL (lvL.map val) = [1, 3, 4, 5] := by decide +kernel
theorem lv2w : ∀ b ∈ lvL, IsW b := by unfold IsW; decide +kernel
theorem lv3 : octM 4613937818241073152 = 1 ∧ aboveE (val 4613937818241073152) = 0 := by decide +kernel

theorem lv_Of (w : World) : Calls Try.prog 21 #[.complex .f64 0 4611686018427387904, .complex .f64 4607182418800017408 0] w (RetCE w (some 0, some 4611686018427387904) 0) := by
  have h := gOf_any 0 4611686018427387904 4607182418800017408 0 w
  rw [lv1.1, lv1.2] at h
  exact h
theorem lv_Half (v : Value) (w : World) (hs : Sl w v (lvL.map F)) : Calls Try.prog 22 #[v] w (RetLE w 3 ([1, 3, 4, 5].map I) 0) := by
  have h := Half_any lvL v w (by decide) lv2w hs
  rw [lv2.1, lv2.2] at h
  exact h
theorem lv_Oct (w : World) : Calls Try.prog 23 #[.float .f64 4613937818241073152] w fun e w' => e = .returned (.tuple #[.int .i64 1, .int .i64 0]) ∧ Dr w w' := by
  have h := Octave_any 4613937818241073152 w (by unfold IsW; omega)
  rw [lv3.1, lv3.2] at h
  exact h
theorem lv_same (va vb : Value) (w : World) (ha : Sl w va ([1, 3, 4, 5].map I)) (hb : Sl w vb ([1, 3, 4, 5].map I)) : Calls Try.prog 24 #[va, vb] w (RetB w true) :=
  SameInts_any [1, 3, 4, 5] [1, 3, 4, 5] va vb w (by decide) (by decide) ha hb
theorem lv_feq : (feq (some 0) (val 0) && feq (some 4611686018427387904) (val 4611686018427387904)) = true := by decide +kernel

set_option maxRecDepth 100000 in
theorem gLives_any (w : World) : Calls Try.prog 4 #[] w fun e w' => e = .returned (.bool true) ∧ Below w.heap.size w w' := by
  have hq1 : feq (some 0) (val 0) = true := by decide +kernel
  have hq2 : feq (some 4611686018427387904) (val 4611686018427387904) = true := by decide +kernel
  go_enter Try.func4, Try.ntmps4
  go_wp2_with (go_at_call 21; refine (lv_Of _).mono ?_; rintro e w' ⟨x, y, rfl, ⟨n, rfl⟩, hr, hx, hy⟩)
  obtain ⟨hr1, hr2⟩ := Prod.mk.inj hr
  refine (lv_Half _ _ (by exact Sl_lit (w.drewN n) 40 (lvL.map F))).mono ?_
  rintro e w1 ⟨v, rfl, hown, hb⟩
  have hsl := Sl.of_owns hown
  have hb0 : Below w.heap.size w w1 := (below_drewN' ((Below.refl w.heap.size w).alloc (Nat.le_refl _) (.cells (lvL.map F).toArray 40)) n).trans (hb.mono (by simp))
  have hz : w.heap.size ≤ w1.heap.size := hb0.size
  clear hown hb hr hx hy
  go_wp2_with (go_at_call 23; refine (lv_Oct _).mono ?_; rintro e w' ⟨rfl, n2, rfl⟩)
  refine (lv_same _ _ _ (by exact hsl.below ((below_drewN' (Below.refl _ w1) n2).alloc (by simp) _)) (by exact Sl_lit (w1.drewN n2) 3 ([1, 3, 4, 5].map I))).mono ?_
  rintro e w3 ⟨rfl, n3, rfl⟩
  go_wp2
  go_ret
  exact ⟨rfl, below_drewN' ((below_drewN' hb0 n2).alloc (by simpa using hz) _) n3⟩
end Go.Proofs.Ytfnbohpfcdddgaa
