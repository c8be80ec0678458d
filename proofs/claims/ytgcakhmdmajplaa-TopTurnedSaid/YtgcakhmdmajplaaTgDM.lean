/- Package graph: all, none, Grounded. Condition: the net is made. The net with an element more that may not be; graph.none, Grounded. Condition: the net is made. -/
import Derived.Test.YtgcakhmdmajplaaTgC
import Derived.Test.YtgcakhmdmajplaaTpDM
import Derived.Test.YtgcakhmdmajplaaNPutKM
namespace Go.Proofs.Ytgcakhmdmajplaa
open Go.RowKit Go.Maps

def AllLoop (W : World) (nodes : List ByteArray) (L : List El) (s mb B2 : Nat) (ev : Value) (i : Value) (wr : World) : Prop := ∃ (k : Nat) (uv : Value) (up : List Nat), i = .int .i64 k ∧ k ≤ L.length ∧ StsAt W.heap.size wr s mb uv (zero8 :: nodes) up ∧ OkUp up ∧ up.length = nodes.length + 1 ∧ upAll nodes L = (L.drop k).foldl (upE (zero8 :: nodes)) up ∧ wr.ownsRow B2 54 8 ev L.length (cellsL L) ∧ Below W.heap.size W wr
set_option maxRecDepth 100000 in
set_option maxHeartbeats 4000000 in
theorem gall_any {w : World} {B : Nat} {N : NB} {V : NV} {L : List El} {nodes br ks : List ByteArray} (K : NetR w B N V L nodes br ks nodes br) (hn : nodes.length ≤ 4000) (hL : L.length ≤ 256) (hnd : (zero8 :: nodes).Nodup) (hsz : ∀ x ∈ nodes, x.size ≤ 16) (hab : ∀ e ∈ L, hasS (zero8 :: nodes) e.a = true ∧ hasS (zero8 :: nodes) e.b = true ∧ e.a.size ≤ 16 ∧ e.b.size ≤ 16 ∧ e.kind < 256) :
    Calls Try.prog 56 #[.pointer (some ⟨N.n, 0, none⟩)] w (RetSet w nodes (upAll nodes L)) := by
  have HO := hid (gof_any K hn hnd hsz)
  go_enter Try.func56, Try.ntmps56
  go_upto_region 2 with (go_at_call 73; (with_reducible refine HO.out.mono ?_); rintro E1 w1 ⟨s, mb, uv1, rfl, S1, b1⟩)
  have HE := hid (nElements_any (K.below b1) (by omega))
  go_wp2_with (go_at_call 16; (with_reducible refine HE.out.mono ?_); rintro E2 w2 ⟨v2, rfl, o2, hb2⟩; obtain ⟨a2, c2, rfl, -⟩ := owns_cap o2)
  have S2 := S1.below hb2
  have b2 := bl2 b1 hb2
  clear S1 hb2 HE HO
  go_loopw [11] (fun i w' => AllLoop w nodes L s mb w1.heap.size (.slice a2 L.length c2) i w') (fun i _ => L.length + 1 - (intOf i).toNat)
  case atStart => exact ⟨0, uv1, up0 nodes.length, rfl, Nat.zero_le _, S2, up0_ok _, up0_len _, by rw [List.drop_zero]; rfl, o2, b2⟩
  case round =>
    obtain ⟨k, uv, up, rfl, hk, HS, hok, hul, hup, ho, hb⟩ := hrel
    clear S2 o2 b2 b1
    by_cases hkn : k < L.length
    · obtain ⟨e, he⟩ : ∃ e, L[k]? = some e := ⟨L[k]'hkn, List.getElem?_eq_getElem hkn⟩
      obtain ⟨ha1, hb1, ha2, hb2, hk256⟩ := hab e (List.mem_of_getElem? he)
      have hdr : L.drop k = e :: L.drop (k + 1) := by rw [List.drop_eq_getElem_cons hkn, (List.getElem?_eq_some_iff.1 he).2]
      rw [hdr, List.foldl_cons] at hup
      have EL := ElsAt.of_owns ho
      obtain ⟨be, off, ea, -⟩ := EL.at he
      subst ea
      obtain ⟨x0, x1, x2, x3, x4, x5, x6, x7⟩ := EL.cellsAt he
      have g6 : (k : Int) < (L.length : Int) := by omega
      obtain ⟨w9, hw9, bw9, e0, e1, e2, e3, e4, e5, e6, e7⟩ := el_open wr e
      have S9 := HS.below bw9
      have o9 := owns_below ho bw9
      have b9 := bl2 hb bw9
      have HJ := hid fun w => joins_any e.kind w
      go_upto_region 5 with (fail)
      rw [← hw9]
      clear hw9 bw9 x0 x1 x2 x3 x4 x5 x6 x7 HS ho hb EL hdr
      cases hj : joinsK e.kind with
      | true =>
        rw [hj] at HJ
        have hue : upE (zero8 :: nodes) up e = joinN up (plc (zero8 :: nodes) e.a) (plc (zero8 :: nodes) e.b) := by unfold upE; rw [if_pos hj]
        rw [hue] at hup
        have HK := hid (join_any S9 hok (by rw [hul]; simp) e.a e.b ha1 hb1 (sz16 ha2) (sz16 hb2))
        have hok2 : OkUp (joinN up (plc (zero8 :: nodes) e.a) (plc (zero8 :: nodes) e.b)) := joinN_ok hok
        have hul2 : (joinN up (plc (zero8 :: nodes) e.a) (plc (zero8 :: nodes) e.b)).length = nodes.length + 1 := by unfold joinN; rw [List.length_set, hul]
        generalize joinN up (plc (zero8 :: nodes) e.a) (plc (zero8 :: nodes) e.b) = up2 at *
        go_wp2_with (first
          | (go_at_call 74; (with_reducible refine (HJ.out _).mono ?_); rintro E3 w10 ⟨rfl, rfl⟩)
          | (go_at_call 75; (with_reducible refine HK.out.mono ?_); rintro E4 w11 ⟨⟨bo, rfl⟩, S11, b11, g11⟩))
        go_roundw
        case rel => exact ⟨k + 1, uv, up2, by go_num, by omega, S11, hok2, hul2, hup, o9.kept g11 (S9.apartE o9 (by decide)), b9.trans b11⟩
        case measure => simp [intOf] <;> omega
      | false =>
        rw [hj] at HJ
        have hue : upE (zero8 :: nodes) up e = up := by unfold upE; rw [hj]; rfl
        rw [hue] at hup
        go_wp2_with (first
          | (go_at_call 74; (with_reducible refine (HJ.out _).mono ?_); rintro E3 w10 ⟨rfl, rfl⟩))
        go_roundw
        case rel => exact ⟨k + 1, uv, up, by go_num, by omega, S9, hok, hul, hup, o9, b9⟩
        case measure => simp [intOf] <;> omega
    · obtain rfl : k = L.length := by omega
      have g6 : ¬ (L.length : Int) < (L.length : Int) := by omega
      rw [List.drop_length] at hup
      have hup2 : upAll nodes L = up := hup
      go_wp2
      go_ret
      exact ⟨s, mb, uv, rfl, by first | exact HS | (rw [hup2]; exact HS), hb⟩
theorem netG_app : ∀ (L : List El) (s s' : NetS) (i : Nat) (e : El), netG s i L = .inr s' → checkE e ≠ 0 → netG s i (L ++ [e]) = .inl (checkE e, ((i + L.length : Nat) : Int))
  | [], s, s', i, e, _, hc => by
    show (if checkE e = 0 then _ else _) = _
    rw [if_neg hc]
    rfl
  | x :: L, s, s', i, e, h, hc => by
    have h2 : netG s i (x :: L) = if checkE x = 0 then (if hasS (nmL s.l) x.name = true then .inl (9, (i : Int)) else netG (putN s x) (i + 1) L) else .inl (checkE x, (i : Int)) := rfl
    rw [h2] at h
    show (if checkE x = 0 then (if hasS (nmL s.l) x.name = true then .inl (9, (i : Int)) else netG (putN s x) (i + 1) (L ++ [e])) else .inl (checkE x, (i : Int))) = _
    split at h
    · rename_i h3
      split at h
      · cases h
      · rename_i h4
        rw [if_pos h3, if_neg h4, netG_app L _ s' (i + 1) e h hc]
        congr 2
        push_cast
        simp
        omega
    · cases h
theorem netF_made {L : List El} {s : NetS} (h : netF L = ((0, 0), some s)) : netG net0 0 L = .inr s := by
  unfold netF at h
  split at h
  · simp at h
  · split at h
    · simp at h
    · rename_i s' hs
      split at h
      · simp at h
      · simp at h
        rw [hs, h]
/-- A net and one that may not be. -/
theorem netF_bad {L : List El} {s : NetS} {e : El} (h : netF L = ((0, 0), some s)) (hc : checkE e ≠ 0) : ∃ f, netF (L ++ [e]) = (f, none) ∧ (f.1 = 3 ∨ f.1 = checkE e) := by
  have hg := netG_app L _ _ 0 e (netF_made h) hc
  unfold netF
  by_cases hl : 256 < (L ++ [e]).length
  · rw [if_pos hl]
    exact ⟨_, rfl, .inl rfl⟩
  · rw [if_neg hl, hg]
    exact ⟨_, rfl, .inr rfl⟩
end Go.Proofs.Ytgcakhmdmajplaa

namespace Go.Proofs.Ytgcakhmdmajplaa
open Go.RowKit Go.Maps

theorem checkE_el0 : checkE el0 = 2 := by decide +kernel
/-- The box of the element that may not be. -/
abbrev BoxE (w : World) (b : Nat) : Prop := w.cell? ⟨b, 0, none⟩ = some (.int .u8 0) ∧ w.cell? ⟨b, 1, none⟩ = some (.string ⟨#[]⟩) ∧ w.cell? ⟨b, 2, none⟩ = some (.string ⟨#[]⟩) ∧ w.cell? ⟨b, 3, none⟩ = some (.string ⟨#[]⟩) ∧ w.cell? ⟨b, 4, none⟩ = some (.string ⟨#[]⟩) ∧ w.cell? ⟨b, 5, none⟩ = some (.string ⟨#[]⟩) ∧ w.cell? ⟨b, 6, none⟩ = some (.float .f64 0) ∧ w.cell? ⟨b, 7, none⟩ = some (.int .i64 0)
theorem BoxE.drew {w : World} {b : Nat} (h : BoxE w b) : BoxE w.drew b := h
theorem BoxE.keep {w w' : World} {b : Nat} (h : BoxE w b) (hk : w'.heap[b]? = w.heap[b]?) : BoxE w' b := by
  unfold BoxE World.cell? at *
  rw [hk]
  exact h
theorem BoxE.lt {w : World} {b : Nat} (h : BoxE w b) : b < w.heap.size := World.block_lt_of_cell? _ _ h.1
theorem BoxE.below {w w' : World} {b : Nat} (h : BoxE w b) (hb : Below w.heap.size w w') : BoxE w' b := h.keep (hb.block b h.lt)
theorem BoxE.set2 {w : World} {b : Nat} (h : BoxE w b) (u v : Value) : BoxE ((w.setCell ⟨b + 1, 0, none⟩ u).setCell ⟨b + 1, 1, none⟩ v) b := h.keep (by rw [Below.heap_setCell _ _ _ _ (by simp), Below.heap_setCell _ _ _ _ (by simp)])
theorem BoxE.grown {w w' : World} {b : Nat} (h : BoxE w b) {r : Option Nat} (hg : w.grownBy w' r) (hne : some b ≠ r) : BoxE w' b := h.keep (hg.block b h.lt hne)
theorem cell_other3 {w : World} {a p : Addr} {u x : Value} (h : w.cell? p = some x) (hne : p.block ≠ a.block) : (w.setCell a u).cell? p = some x := by
  unfold World.cell? at h ⊢
  rw [Below.heap_setCell _ _ _ _ hne]
  exact h
theorem lt_heap0 {w : World} {b : Nat} {o : Obj} (h : w.heap[b]? = some o) : b < w.heap.size := (Array.getElem?_eq_some_iff.1 h).1
theorem own_weak0 {w : World} {b b' e size : Nat} {v : Value} {n : Nat} {xs : List Value} (h : w.ownsRow b e size v n xs) (hb : b' ≤ b) : w.ownsRow b' e size v n xs := by
  refine ⟨h.1, ?_⟩
  rcases h.2 with h2 | ⟨g, cap, cur, rfl, hbg, r⟩
  · exact .inl h2
  · exact .inr ⟨g, cap, cur, rfl, Nat.le_trans hb hbg, r⟩
theorem app_below {w w' : World} {B e size n : Nat} {v : Value} {xs : List Value} (hg : w.grownBy w' v.ownBlock) (ho : w.ownsRow B e size v n xs) (hB : B ≤ w.heap.size) : Below B w w' := ⟨hg.os, hg.tape, hg.output, hg.size, fun k hk => hg.block k (by omega) (fun e => by have := (ho.lt k e.symm).1; omega)⟩
/-- 'append(elements, e)' at a step of a region that draws its order. -/
theorem step_app_el {ops : Array Oper} {o : Oper} {a : Act} {K : Act → World → Prop} {Q : Exit → Act → World → Prop} {E : Prop} {w : World} (hgd : o.guard = none) (s x : Operand)
    (ho : o.op = .call { callee := .builtin .append, args := #[s, x], argTypes := #[24, 24] }) (base : Nat) (v : Value) (n : Nat) (xs : List Value) (b : Nat) (e : El) (h63 : n ≤ 100000) (hs : a.eval s = v) (hx : a.eval x = .slice (some ⟨b, 0, none⟩) 1 1)
    (hown : w.ownsRow base 54 8 v n xs) (hnew : w.heap[b]? = some (.cells (elC e).toArray 54 (0, 0))) (hbase : base ≤ w.heap.size)
    (h : ∀ g cap w', w'.ownsRow base 54 8 (.slice (some ⟨g, 0, none⟩) (n + 1) cap) (n + 1) (xs ++ elC e) → w.grownBy w' v.ownBlock → K (a.put o.dst (.slice (some ⟨g, 0, none⟩) (n + 1) cap)) w') :
    if Region.wanted o (yielded ops a.tmps) = true then Oper.wp Try.prog o a w K Q else E := by
  obtain ⟨iC, hi1, hz0, hz1, hz2⟩ := info_parts info_el
  refine step_append_lies w hgd s x _ ho base 54 iC _ 8 104 Try.underlying24 hi1 hz0 hz1 hz2 rfl (by decide) v n xs hs hown ⟨b, 0, none⟩ 1 1 (elC e) hx rfl (fun j u hu => World.news_of_block hnew j u (by simpa using hu)) (by simp [elC, Value.oneCell']) (by decide) (by simp only [maxLen]; omega) (by omega) hbase _ rfl ?_
  intro g cap w' k1 k2 k3 k4
  exact h g cap w' k1 k2
set_option maxRecDepth 100000 in
set_option maxHeartbeats 4000000 in
theorem nWith_any {w : World} {B : Nat} {N : NB} {V : NV} {L : List El} {nodes br ks ps bs : List ByteArray} (K : NetR w B N V L nodes br ks ps bs) (hL : L.length ≤ 256) (hk : ∀ e ∈ L, e.kind < 256) {s : NetS} (hnet : netF L = ((0, 0), some s)) :
    Calls Try.prog 72 #[.pointer (some ⟨N.n, 0, none⟩), .agg #[.int .u8 0, .string ⟨#[]⟩, .string ⟨#[]⟩, .string ⟨#[]⟩, .string ⟨#[]⟩, .string ⟨#[]⟩, .float .f64 0, .int .i64 0]] w fun E w' => (∃ f1 f2 : Int, E = .returned (.tuple #[.pointer none, .agg #[.int .i64 f1, .int .i64 f2]]) ∧ (f1 = 3 ∨ f1 = 2)) ∧ Below w.heap.size w w' := by
  obtain ⟨⟨⟨f1, f2⟩, fo⟩, hf, hf3⟩ : ∃ r : (Int × Int) × Option NetS, netF (L ++ [el0]) = r ∧ r.2 = none ∧ (r.1.1 = 3 ∨ r.1.1 = 2) := by
    obtain ⟨f, h1, h2⟩ := netF_bad hnet (e := el0) (by rw [checkE_el0]; decide)
    rw [checkE_el0] at h2
    exact ⟨_, h1, rfl, h2⟩
  obtain ⟨rfl, hf3⟩ := hf3
  have HOf : Hid (∀ v w', ElsAt w' v (L ++ [el0]) → Calls Try.prog 6 #[v] w' fun E w'' => E = .returned (.tuple #[.pointer none, .agg #[.int .i64 f1, .int .i64 f2]]) ∧ Below w'.heap.size w' w'') := fun v w' h => by
    have := Of_any (L ++ [el0]) (fun e he => by
      rcases List.mem_append.1 he with h1 | h1
      · exact hk e h1
      · rw [List.mem_singleton.1 h1]; decide) v w' h (by simp; omega)
    rw [hf] at this
    exact this
  clear hf
  have b0 : Below w.heap.size w ((w.alloc (.cells #[.int .u8 0, .string ⟨#[]⟩, .string ⟨#[]⟩, .string ⟨#[]⟩, .string ⟨#[]⟩, .string ⟨#[]⟩, .float .f64 0, .int .i64 0] 54)).alloc (.cells #[.int .i64 0, .int .i64 0] 29)) := bla _ (bl_a _ _)
  have HI := hid (is_any (K.below b0))
  go_enter Try.func72, Try.ntmps72
  go_upto_region 3 with (go_at_call 30; (with_reducible refine HI.out.mono ?_); rintro E1 w1 ⟨rfl, rfl⟩)
  have x0 : BoxE ((w.alloc (.cells #[.int .u8 0, .string ⟨#[]⟩, .string ⟨#[]⟩, .string ⟨#[]⟩, .string ⟨#[]⟩, .string ⟨#[]⟩, .float .f64 0, .int .i64 0] 54)).alloc (.cells #[.int .i64 0, .int .i64 0] 29)) w.heap.size := BoxE.below ((ElAt.new w el0).cells) (bl_a _ _)
  have F0 : FltAt ((w.alloc (.cells #[.int .u8 0, .string ⟨#[]⟩, .string ⟨#[]⟩, .string ⟨#[]⟩, .string ⟨#[]⟩, .string ⟨#[]⟩, .float .f64 0, .int .i64 0] 54)).alloc (.cells #[.int .i64 0, .int .i64 0] 29)) (w.heap.size + 1) 0 0 := flt_n _ 0 0 (by simp)
  obtain ⟨w1, hw1⟩ : ∃ w1, w1 = ((w.alloc (.cells #[.int .u8 0, .string ⟨#[]⟩, .string ⟨#[]⟩, .string ⟨#[]⟩, .string ⟨#[]⟩, .string ⟨#[]⟩, .float .f64 0, .int .i64 0] 54)).alloc (.cells #[.int .i64 0, .int .i64 0] 29)) := ⟨_, rfl⟩
  rw [← hw1] at x0 F0 b0 ⊢
  clear hw1 HI
  have hlt := x0.lt
  have HE := hid fun w' (h : Below w1.heap.size w1 w') => nElements_any (K.below (bl2 b0 h)) (by omega)
  have d0 : Below w1.heap.size w1 w1.drew := bld (Below.refl _ _)
  have d1 : Below w1.heap.size w1 (w1.alloc (.cells #[.int .u8 0, .string ⟨#[]⟩, .string ⟨#[]⟩, .string ⟨#[]⟩, .string ⟨#[]⟩, .string ⟨#[]⟩, .float .f64 0, .int .i64 0] 54)).drew := bld (bla _ (Below.refl _ _))
  have x1 : BoxE (w1.alloc (.cells #[.int .u8 0, .string ⟨#[]⟩, .string ⟨#[]⟩, .string ⟨#[]⟩, .string ⟨#[]⟩, .string ⟨#[]⟩, .float .f64 0, .int .i64 0] 54)).drew w.heap.size := x0.below d1
  have n1 : (w1.alloc (.cells #[.int .u8 0, .string ⟨#[]⟩, .string ⟨#[]⟩, .string ⟨#[]⟩, .string ⟨#[]⟩, .string ⟨#[]⟩, .float .f64 0, .int .i64 0] 54)).drew.heap[w1.heap.size]? = some (.cells (elC el0).toArray 54 (0, 0)) := blk_new _ _
  have x4 : BoxE w1.drew w.heap.size := x0.drew
  have hsl : cellsL (L ++ [el0]) = cellsL L ++ elC el0 := by simp [cellsL]
  go_region_held3 (fun w' => w'.cell? ⟨w.heap.size, 0, none⟩ = some (.int .u8 0) ∧ w'.cell? ⟨w.heap.size, 1, none⟩ = some (.string ⟨#[]⟩) ∧ w'.cell? ⟨w.heap.size, 2, none⟩ = some (.string ⟨#[]⟩) ∧ w'.cell? ⟨w.heap.size, 3, none⟩ = some (.string ⟨#[]⟩) ∧ w'.cell? ⟨w.heap.size, 4, none⟩ = some (.string ⟨#[]⟩) ∧ w'.cell? ⟨w.heap.size, 5, none⟩ = some (.string ⟨#[]⟩) ∧ w'.cell? ⟨w.heap.size, 6, none⟩ = some (.float .f64 0) ∧ w'.cell? ⟨w.heap.size, 7, none⟩ = some (.int .i64 0)) (repeat (first | with_reducible exact x0 | with_reducible exact x1 | with_reducible exact x2 | with_reducible exact x3 | with_reducible exact x4 | with_reducible exact x5 | with_reducible exact x6 | with_reducible exact x6.set2 _ _ | fail)) (first
    | (go_at_call 16; (with_reducible refine (HE.out _ d0).mono ?_); rintro E2 w2 ⟨v2, rfl, o2, hb2⟩; obtain ⟨a2, c2, rfl, -⟩ := owns_cap o2; have x2 := x0.below (bl2 d0 hb2); have x3 := x2.below (bla (.cells #[.int .u8 0, .string ⟨#[]⟩, .string ⟨#[]⟩, .string ⟨#[]⟩, .string ⟨#[]⟩, .string ⟨#[]⟩, .float .f64 0, .int .i64 0] 54) (Below.refl _ _)); have n2 : (w2.alloc (.cells #[.int .u8 0, .string ⟨#[]⟩, .string ⟨#[]⟩, .string ⟨#[]⟩, .string ⟨#[]⟩, .string ⟨#[]⟩, .float .f64 0, .int .i64 0] 54)).heap[w2.heap.size]? = some (.cells (elC el0).toArray 54 (0, 0)) := blk_new _ _; have e2 := bl2 d0 hb2; have o3 := o2.alloc (.cells #[.int .u8 0, .string ⟨#[]⟩, .string ⟨#[]⟩, .string ⟨#[]⟩, .string ⟨#[]⟩, .string ⟨#[]⟩, .float .f64 0, .int .i64 0] 54))
    | (go_at_call 16; (with_reducible refine (HE.out _ d1).mono ?_); rintro E2 w2 ⟨v2, rfl, o2, hb2⟩; obtain ⟨a2, c2, rfl, -⟩ := owns_cap o2; have x2 := x1.below hb2; have n2 := (hb2.block w1.heap.size (lt_heap0 n1)).trans n1; have e2 := bl2 d1 hb2; have o3 := o2)
    | (go_at_call 6; (with_reducible refine (HOf.out _ _ (by rw [← hsl] at hown4; exact ElsAt.of_owns (by simpa using hown4))).mono ?_); rintro E5 w5 ⟨rfl, hb5⟩; have x6 := x5.below hb5; have F5 := flt_b F4 hb5; have p0 := F5.c0; have p1 := F5.c1; have p3 := F5.fr 0; have p4 := F5.fr 1)
    | (apply step_app_el rfl _ _ rfl w1.heap.size _ L.length (cellsL L) _ el0 (by omega); (· rfl); (· rfl); (· exact own_weak0 o3 (by first | exact d0.size | exact d1.size)); (· exact n2); (· first | exact Nat.le_trans e2.size (bl_a _ _).size | exact e2.size); intro g4 cap4 w4 hown4 hg4; have b4 := app_below hg4 (own_weak0 o3 (by first | exact d0.size | exact d1.size)) (by first | exact Nat.le_trans e2.size (bl_a _ _).size | exact e2.size); have x5 := BoxE.keep (by first | exact x3 | exact x2) (b4.block w.heap.size hlt); have e4 : Below w1.heap.size w1 w4 := Below.trans (by first | exact bla _ e2 | exact e2) b4; have F4 := FltAt.below F0 e4 F0.lt))
  all_goals
    go_wp2
    refine bodyPost_ret (results_flt rfl _ _ (w.heap.size + 1) f1 f2 rfl (F5.set2 _ _)) rfl ?_
    have bF := bls (p := ⟨w.heap.size + 1, 1, none⟩) (v := .int .i64 f2) (bls (p := ⟨w.heap.size + 1, 0, none⟩) (v := .int .i64 f1) (bl2 (bl2 b0 e4) hb5) (by simp)) (by simp)
    exact ⟨⟨f1, f2, rfl, hf3⟩, bF⟩
set_option maxRecDepth 100000 in
set_option maxHeartbeats 1000000 in
theorem gnone_any {w : World} {B : Nat} {N : NB} {V : NV} {L : List El} {nodes br ks ps bs : List ByteArray} (K : NetR w B N V L nodes br ks ps bs) (hL : L.length ≤ 256) (hk : ∀ e ∈ L, e.kind < 256) {s : NetS} (hnet : netF L = ((0, 0), some s)) :
    Calls Try.prog 55 #[.pointer (some ⟨N.n, 0, none⟩)] w (RetV w (.bool false)) := by
  have HW := hid (nWith_any K hL hk hnet)
  go_enter Try.func55, Try.ntmps55
  go_upto_region 4 with (go_at_call 72; (with_reducible refine HW.out.mono ?_); rintro E1 w1 ⟨⟨f1, f2, rfl, hf⟩, hb1⟩)
  have h1 : (f1 == 1) = false := by simp; omega
  have h2 : ¬ (f1 = 1) := by omega
  have F1 := FltAt.new w1 f1 f2
  have b1 := bla (.cells #[.int .i64 f1, .int .i64 f2] 29) hb1
  have c0 := F1.c0
  clear hf
  go_wp2
  go_ret
  exact ⟨by simp, b1⟩
theorem results_fl1 {fn : Func} {p : Tmp} (h : fn.results = #[.cell p 29]) (tmps : Array Value) (w : World) (b : Nat) (x y : Int) (hp : tmps.getD p undef = .pointer (some ⟨b, 0, none⟩)) (hf : FltAt w b x y) :
    (results fn tmps).run Try.prog w = .ok (.agg #[.int .i64 x, .int .i64 y]) w := by
  have h0 := hf.c0
  have h1 := hf.c1
  simp only [Array.getD_eq_getD_getElem?] at hp ⊢
  simp [results, h, hp, go_sem, h0, h1, Sem.run_bind, Result.andThen]
def GndLoop (W : World) (nodes : List ByteArray) (s mb : Nat) (uv : Value) (up : List Nat) (i : Value) (wr : World) : Prop := ∃ k : Nat, i = .int .i64 k ∧ k ≤ nodes.length ∧ StsAt W.heap.size wr s mb uv (zero8 :: nodes) up ∧ FltAt wr W.heap.size 0 0 ∧ gndG up 0 nodes.length = gndG up k (nodes.length - k) ∧ Below W.heap.size W wr
theorem upAll_ok (nodes : List ByteArray) (L : List El) : OkUp (upAll nodes L) ∧ (upAll nodes L).length = nodes.length + 1 := by
  unfold upAll
  have h : ∀ (L : List El) (up : List Nat), OkUp up → OkUp (L.foldl (upE (zero8 :: nodes)) up) ∧ (L.foldl (upE (zero8 :: nodes)) up).length = up.length := by
    intro L
    induction L with
    | nil => intro up h; exact ⟨h, rfl⟩
    | cons e L ih =>
      intro up h
      rw [List.foldl_cons]
      obtain ⟨h1, h2⟩ := ih (upE (zero8 :: nodes) up e) (upE_ok h)
      exact ⟨h1, h2.trans upE_len⟩
  obtain ⟨h1, h2⟩ := h L (up0 nodes.length) (up0_ok _)
  exact ⟨h1, h2.trans (up0_len _)⟩
set_option maxRecDepth 100000 in
set_option maxHeartbeats 4000000 in
theorem Grounded_any {w : World} {B : Nat} {N : NB} {V : NV} {L : List El} {nodes br ks : List ByteArray} (K : NetR w B N V L nodes br ks nodes br) (hn : nodes.length ≤ 4000) (hL : L.length ≤ 256) (hnd : (zero8 :: nodes).Nodup) (hsz : ∀ x ∈ nodes, x.size ≤ 16) (hab : ∀ e ∈ L, hasS (zero8 :: nodes) e.a = true ∧ hasS (zero8 :: nodes) e.b = true ∧ e.a.size ≤ 16 ∧ e.b.size ≤ 16 ∧ e.kind < 256) {s : NetS} (hnet : netF L = ((0, 0), some s)) :
    Calls Try.prog 40 #[.pointer (some ⟨N.n, 0, none⟩)] w (RetV w (.agg #[.int .i64 (gndF nodes L).1, .int .i64 (gndF nodes L).2])) := by
  have b0 : Below w.heap.size w (w.alloc (.cells #[.int .i64 0, .int .i64 0] 29)) := bl_a _ _
  have F0 := FltAt.new w 0 0
  have HN := hid (gnone_any (K.below b0) hL (fun e he => (hab e he).2.2.2.2) hnet)
  have HG : gndF nodes L = gndG (upAll nodes L) 0 nodes.length := rfl
  obtain ⟨hok, hul⟩ := upAll_ok nodes L
  have HA := hid fun w' (h : Below w.heap.size w w') => gall_any (K.below h) hn hL hnd hsz hab
  generalize gndF nodes L = G at *
  generalize upAll nodes L = up at *
  go_enter Try.func40, Try.ntmps40
  go_upto_region 3 with (go_at_call 55; (with_reducible refine HN.out.mono ?_); rintro E1 w1 ⟨rfl, hb1⟩)
  have b1 := bl2 b0 hb1
  have F1 := flt_b F0 hb1
  clear b0 F0 hb1 HN
  go_upto_region 4 with (go_at_call 56; (with_reducible refine (HA.out _ b1).mono ?_); rintro E2 w2 ⟨sb, mb, uv, rfl, S2, hb2⟩)
  have b2 := bl2 b1 hb2
  have F2 := flt_b F1 hb2
  clear b1 F1 hb2 HA
  have HNd := hid (nNodes_any (K.below b2) hn)
  go_wp2_with (go_at_call 10; (with_reducible refine HNd.out.mono ?_); rintro E3 w3 ⟨v3, rfl, o3, hb3⟩; obtain ⟨a3, c3, rfl, -⟩ := owns_cap o3)
  have S3 := S2.below hb3
  have b3 := bl2 b2 hb3
  have F3 := flt_b F2 hb3
  clear b2 F2 hb3 S2 HNd
  go_loopw [13] (fun i w' => ∃ k : Nat, i = .int .i64 k ∧ k ≤ nodes.length ∧ w' = w3 ∧ G = gndG up k (nodes.length - k)) (fun i _ => nodes.length + 1 - (intOf i).toNat)
  case atStart => exact ⟨0, rfl, Nat.zero_le _, rfl, HG⟩
  case round =>
    obtain ⟨k, rfl, hk, rfl, hG⟩ := hrel
    clear HG
    by_cases hkn : k < nodes.length
    · have g6 : (k : Int) < (nodes.length : Int) := by omega
      have hR := root_any S3 hok (k + 1) (by omega)
      push_cast at hR
      obtain ⟨m, hm⟩ : ∃ m, nodes.length - k = m + 1 := ⟨nodes.length - k - 1, by omega⟩
      have hm2 : nodes.length - (k + 1) = m := by omega
      rw [hm] at hG
      have hG2 : G = if rootN up (k + 1) = 0 then gndG up (k + 1) m else (11, (k : Int)) := hG
      clear hG hm
      generalize rootN up (k + 1) = r at *
      replace hR := hid hR
      by_cases hr : r = 0
      · subst hr
        have HG := hid (hG2.trans (if_pos rfl))
        clear hG2
        go_wp2_with (go_at_call 57; (with_reducible refine hR.out.mono ?_); rintro E4 w4 ⟨rfl, rfl⟩)
        go_roundw
        case rel => exact ⟨k + 1, by go_num, by omega, trivial, by rw [hm2]; exact HG.out⟩
        case measure => simp [intOf] <;> omega
      · have HG := hid (hG2.trans (if_neg hr))
        have h1 : ((r : Int) == 0) = false := by simp; omega
        have h2 : ¬ ((r : Int) = 0) := by omega
        have h3 : ((r : Int) != 0) = true := by simp; omega
        have p0 := F3.c0
        have p1 := F3.c1
        have p3 := F3.fr 0
        have p4 := F3.fr 1
        clear hG2
        go_wp2_with (go_at_call 57; (with_reducible refine hR.out.mono ?_); rintro E4 w4 ⟨rfl, rfl⟩)
        refine bodyPost_ret (results_fl1 rfl _ _ w.heap.size 11 (k : Int) rfl (F3.set2 _ _)) rfl ?_
        exact ⟨by rw [HG.out], bls (bls b3 (Nat.le_refl _)) (Nat.le_refl _)⟩
    · obtain rfl : k = nodes.length := by omega
      have g6 : ¬ (nodes.length : Int) < (nodes.length : Int) := by omega
      have hG2 : G = gndG up nodes.length 0 := by rw [hG, Nat.sub_self]
      have HG := hid hG2
      have p0 := F3.c0
      have p1 := F3.c1
      have p3 := F3.fr 0
      have p4 := F3.fr 1
      clear hG hG2
      go_wp2
      refine bodyPost_ret (results_fl1 rfl _ _ w.heap.size 0 0 rfl (F3.set2 _ _)) rfl ?_
      exact ⟨by rw [HG.out]; rfl, bls (bls b3 (Nat.le_refl _)) (Nat.le_refl _)⟩
end Go.Proofs.Ytgcakhmdmajplaa
