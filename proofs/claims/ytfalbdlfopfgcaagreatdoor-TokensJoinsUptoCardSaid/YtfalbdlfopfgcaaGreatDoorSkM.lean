/- The slow decimal of internal/strconv in the world. No condition. internal/strconv.trim, shouldRoundUp, prefixIsLessThan: walks. No condition but that the decimal lies there. internal/strconv.prefixIsLessThan, shouldRoundUp: walks. No condition but that the decimal lies there. -/
import Derived.Test.YtfalbdlfopfgcaaGreatDoorSdTM
import Derived.Test.YtfalbdlfopfgcaaGreatDoorPeM
import Derived.Deep.RegionWith
import Derived.Deep.CutRange
import Derived.Deep.QuietTactic
import Derived.BigQuiet
namespace Go.Proofs.YtfalbdlfopfgcaaGreatDoor
open Go.RowKit

/-- The decimal in the world: the bytes of its digits, how many count, the point's place, its sign, whether digits were lost. -/
def DcAt (w : World) (b : Nat) (f : Nat → Nat) (nd : Nat) (dp : Int) (ng tr : Bool) : Prop := ∃ cs : Array Value, w.heap[b]? = some (.cells cs 201 (0, 0)) ∧ cs.size = 804 ∧ (∀ k, k < 800 → cs[k]? = some (.int .u8 (f k : Nat))) ∧ cs[800]? = some (.int .i64 nd) ∧ cs[801]? = some (.int .i64 dp) ∧ cs[802]? = some (.bool ng) ∧ cs[803]? = some (.bool tr)
section
variable {w w' : World} {b nd : Nat} {f : Nat → Nat} {dp : Int} {ng tr : Bool}
theorem DcAt.lt (h : DcAt w b f nd dp ng tr) : b < w.heap.size := by
  obtain ⟨cs, h, _⟩ := h
  exact (Array.getElem?_eq_some_iff.1 h).1
theorem DcAt.drewN (h : DcAt w b f nd dp ng tr) (m : Nat) : DcAt (w.drewN m) b f nd dp ng tr := h
theorem DcAt.below (h : DcAt w b f nd dp ng tr) (hb : Below w.heap.size w w') : DcAt w' b f nd dp ng tr := by
  have hlt := h.lt
  obtain ⟨cs, h0, h1⟩ := h
  exact ⟨cs, (hb.block b hlt).trans h0, h1⟩
theorem DcAt.cd (h : DcAt w b f nd dp ng tr) {k : Nat} (hk : k < 800) : w.cell? ⟨b, k, none⟩ = some (.int .u8 (f k : Nat)) := by
  obtain ⟨cs, h0, _, h1, _⟩ := h
  simp [World.cell?, h0, h1 k hk]
theorem DcAt.cn (h : DcAt w b f nd dp ng tr) : w.cell? ⟨b, 800, none⟩ = some (.int .i64 nd) := by
  obtain ⟨cs, h0, _, _, h1, _⟩ := h
  simp [World.cell?, h0, h1]
theorem DcAt.cp (h : DcAt w b f nd dp ng tr) : w.cell? ⟨b, 801, none⟩ = some (.int .i64 dp) := by
  obtain ⟨cs, h0, _, _, _, h1, _⟩ := h
  simp [World.cell?, h0, h1]
theorem DcAt.cg (h : DcAt w b f nd dp ng tr) : w.cell? ⟨b, 802, none⟩ = some (.bool ng) := by
  obtain ⟨cs, h0, _, _, _, _, h1, _⟩ := h
  simp [World.cell?, h0, h1]
theorem DcAt.ct (h : DcAt w b f nd dp ng tr) : w.cell? ⟨b, 803, none⟩ = some (.bool tr) := by
  obtain ⟨cs, h0, _, _, _, _, _, h1⟩ := h
  simp [World.cell?, h0, h1]
theorem DcAt.fr (h : DcAt w b f nd dp ng tr) (j : Nat) : w.frozen? ⟨b, j, none⟩ = false := by
  obtain ⟨cs, h0, _⟩ := h
  simp [World.frozen?, h0]
theorem heap_set {b : Nat} {cs : Array Value} {t : TypeId} {r : Nat × Nat} (h : w.heap[b]? = some (.cells cs t r)) (k : Nat) (v : Value) : (w.setCell ⟨b, k, none⟩ v).heap[b]? = some (.cells (cs.setIfInBounds k v) t r) := by
  simp [World.setCell, Array.getElem?_modify, h]
theorem DcAt.setD (h : DcAt w b f nd dp ng tr) {k : Nat} (hk : k < 800) (x : Nat) : DcAt (w.setCell ⟨b, k, none⟩ (.int .u8 (x : Nat))) b (fun j => if j = k then x else f j) nd dp ng tr := by
  obtain ⟨cs, h0, h1, h2, h3, h4, h5, h6⟩ := h
  refine ⟨_, heap_set h0 _ _, by simpa using h1, fun j hj => ?_, ?_, ?_, ?_, ?_⟩
  · by_cases hjk : j = k
    · subst hjk
      rw [Array.getElem?_setIfInBounds_self_of_lt (by omega)]
      simp only [if_true]
    · rw [Array.getElem?_setIfInBounds_ne (by omega)]
      simp only [if_neg hjk]
      exact h2 j hj
  · rw [Array.getElem?_setIfInBounds_ne (by omega)]; exact h3
  · rw [Array.getElem?_setIfInBounds_ne (by omega)]; exact h4
  · rw [Array.getElem?_setIfInBounds_ne (by omega)]; exact h5
  · rw [Array.getElem?_setIfInBounds_ne (by omega)]; exact h6
theorem DcAt.setN (h : DcAt w b f nd dp ng tr) (x : Nat) : DcAt (w.setCell ⟨b, 800, none⟩ (.int .i64 (x : Nat))) b f x dp ng tr := by
  obtain ⟨cs, h0, h1, h2, h3, h4, h5, h6⟩ := h
  refine ⟨_, heap_set h0 _ _, by simpa using h1, fun j hj => ?_, ?_, ?_, ?_, ?_⟩
  · rw [Array.getElem?_setIfInBounds_ne (by omega)]; exact h2 j hj
  · rw [Array.getElem?_setIfInBounds_self_of_lt (by omega)]
  · rw [Array.getElem?_setIfInBounds_ne (by omega)]; exact h4
  · rw [Array.getElem?_setIfInBounds_ne (by omega)]; exact h5
  · rw [Array.getElem?_setIfInBounds_ne (by omega)]; exact h6
theorem DcAt.setP (h : DcAt w b f nd dp ng tr) (x : Int) : DcAt (w.setCell ⟨b, 801, none⟩ (.int .i64 x)) b f nd x ng tr := by
  obtain ⟨cs, h0, h1, h2, h3, h4, h5, h6⟩ := h
  refine ⟨_, heap_set h0 _ _, by simpa using h1, fun j hj => ?_, ?_, ?_, ?_, ?_⟩
  · rw [Array.getElem?_setIfInBounds_ne (by omega)]; exact h2 j hj
  · rw [Array.getElem?_setIfInBounds_ne (by omega)]; exact h3
  · rw [Array.getElem?_setIfInBounds_self_of_lt (by omega)]
  · rw [Array.getElem?_setIfInBounds_ne (by omega)]; exact h5
  · rw [Array.getElem?_setIfInBounds_ne (by omega)]; exact h6
theorem DcAt.setG (h : DcAt w b f nd dp ng tr) (x : Bool) : DcAt (w.setCell ⟨b, 802, none⟩ (.bool x)) b f nd dp x tr := by
  obtain ⟨cs, h0, h1, h2, h3, h4, h5, h6⟩ := h
  refine ⟨_, heap_set h0 _ _, by simpa using h1, fun j hj => ?_, ?_, ?_, ?_, ?_⟩
  · rw [Array.getElem?_setIfInBounds_ne (by omega)]; exact h2 j hj
  · rw [Array.getElem?_setIfInBounds_ne (by omega)]; exact h3
  · rw [Array.getElem?_setIfInBounds_ne (by omega)]; exact h4
  · rw [Array.getElem?_setIfInBounds_self_of_lt (by omega)]
  · rw [Array.getElem?_setIfInBounds_ne (by omega)]; exact h6
theorem DcAt.setT (h : DcAt w b f nd dp ng tr) (x : Bool) : DcAt (w.setCell ⟨b, 803, none⟩ (.bool x)) b f nd dp ng x := by
  obtain ⟨cs, h0, h1, h2, h3, h4, h5, h6⟩ := h
  refine ⟨_, heap_set h0 _ _, by simpa using h1, fun j hj => ?_, ?_, ?_, ?_, ?_⟩
  · rw [Array.getElem?_setIfInBounds_ne (by omega)]; exact h2 j hj
  · rw [Array.getElem?_setIfInBounds_ne (by omega)]; exact h3
  · rw [Array.getElem?_setIfInBounds_ne (by omega)]; exact h4
  · rw [Array.getElem?_setIfInBounds_ne (by omega)]; exact h5
  · rw [Array.getElem?_setIfInBounds_self_of_lt (by omega)]
end
/-- These bytes are these digits. -/
def Byt (f : Nat → Nat) (o : Nat) (t : List Nat) : Prop := ∀ k c, t[k]? = some c → f (o + k) = 48 + c
theorem Byt.get {f : Nat → Nat} {t : List Nat} (h : Byt f 0 t) {k : Nat} (hk : k < t.length) : f k = 48 + t.getD k 0 := by
  have := h k (t[k]) (List.getElem?_eq_getElem hk)
  rw [Nat.zero_add] at this
  rw [this, List.getD_eq_getElem?_getD, List.getElem?_eq_getElem hk]
  rfl
/-- The decimal of these digits lies there. -/
def DcT (w : World) (b : Nat) (t : List Nat) (dp : Int) (ng : Bool) : Prop := ∃ f, DcAt w b f t.length dp ng false ∧ Byt f 0 t
/-- What grows aside from one block. -/
theorem gr_refl (w : World) (r : Option Nat) : w.grownBy w r := ⟨rfl, rfl, rfl, Nat.le_refl _, fun _ _ _ => rfl⟩
theorem gr_drewN {w w' : World} {r : Option Nat} (h : w.grownBy w' r) (n : Nat) : w.grownBy (w'.drewN n) r := ⟨h.os, h.tape, h.output, h.size, h.block⟩
theorem gr_set {w w' : World} {b : Nat} (h : w.grownBy w' (some b)) (j : Nat) (v : Value) : w.grownBy (w'.setCell ⟨b, j, none⟩ v) (some b) := ⟨h.os, h.tape, h.output, by simp [World.setCell]; exact h.size, fun k hk hne => by
  rw [Below.heap_setCell _ _ _ _ (fun e => hne (by rw [e]))]
  exact h.block k hk hne⟩
theorem gr_trans {w w' w'' : World} {r : Option Nat} (h : w.grownBy w' r) (h2 : w'.grownBy w'' r) : w.grownBy w'' r := ⟨h2.os.trans h.os, h2.tape.trans h.tape, h2.output.trans h.output, Nat.le_trans h.size h2.size, fun k hk hne => (h2.block k (Nat.lt_of_lt_of_le hk h.size) hne).trans (h.block k hk hne)⟩
theorem gr_below {w w' : World} {b B : Nat} (h : w.grownBy w' (some b)) (hb : B ≤ b) (hB : B ≤ w.heap.size) : Below B w w' := ⟨h.os, h.tape, h.output, h.size, fun k hk => h.block k (Nat.lt_of_lt_of_le hk hB) (fun e => by cases e; omega)⟩
theorem gr_cell {w w' : World} {b : Nat} (h : w.grownBy w' (some b)) {p : Addr} {v : Value} (hp : p.block ≠ b) (hc : w.cell? p = some v) : w'.cell? p = some v := by
  have h1 := h.block p.block (World.block_lt_of_cell? _ _ hc) (fun e => hp (Option.some.inj e))
  unfold World.cell? at hc ⊢
  rw [h1]
  exact hc
end Go.Proofs.YtfalbdlfopfgcaaGreatDoor

namespace Go.Proofs.YtfalbdlfopfgcaaGreatDoor
open Go.RowKit

def ndOf (b : Nat) (w : World) : Nat := match w.cell? ⟨b, 800, none⟩ with
  | some (.int _ n) => n.toNat
  | _ => 0
theorem DcAt.ndOf {w : World} {b nd : Nat} {f : Nat → Nat} {dp : Int} {ng tr : Bool} (h : DcAt w b f nd dp ng tr) : ndOf b w = nd := by
  unfold Go.Proofs.YtfalbdlfopfgcaaGreatDoor.ndOf
  rw [h.cn]
  rfl
def RetTr (w : World) (b : Nat) (t : List Nat) (dp : Int) (ng : Bool) (E : Ending) (w' : World) : Prop := E = .returned (.tuple #[]) ∧ (∃ t', Trm t t' ∧ DcT w' b t' dp ng) ∧ w.grownBy w' (some b)
def TmLoop (w : World) (b : Nat) (f : Nat → Nat) (t : List Nat) (dp : Int) (ng : Bool) (w' : World) : Prop := ∃ m, 0 < m ∧ m ≤ t.length ∧ (∀ c ∈ t.drop m, c = 0) ∧ DcAt w' b f m dp ng false ∧ w.grownBy w' (some b)
theorem drop_pred {t : List Nat} {m : Nat} (hm : 0 < m) (hmt : m ≤ t.length) (h : ∀ c ∈ t.drop m, c = 0) (h0 : t.getD (m - 1) 0 = 0) : ∀ c ∈ t.drop (m - 1), c = 0 := by
  intro c hc
  rw [List.drop_eq_getElem_cons (by omega : m - 1 < t.length), show m - 1 + 1 = m by omega] at hc
  rcases List.mem_cons.1 hc with rfl | hc
  · rw [List.getD_eq_getElem?_getD, List.getElem?_eq_getElem (by omega)] at h0
    exact h0
  · exact h c hc
theorem head_getD {t : List Nat} (h : Nrm t) : t.getD 0 0 ≠ 0 := by
  obtain ⟨h1, -, h3, -⟩ := h
  cases t with
  | nil => exact absurd rfl h1
  | cons c t => exact fun e => h3 (by rw [show c = 0 from e]; rfl)
theorem last_getD {t : List Nat} {m : Nat} (hm : 0 < m) (hmt : m ≤ t.length) (h : t.getD (m - 1) 0 ≠ 0) : (t.take m).getLast? ≠ some 0 := by
  rw [List.getLast?_eq_getElem?, List.length_take, Nat.min_eq_left hmt, List.getElem?_take, if_pos (by omega)]
  rw [List.getD_eq_getElem?_getD] at h
  intro e
  rw [e] at h
  exact h rfl
theorem Byt.take {f : Nat → Nat} {t : List Nat} {o : Nat} (h : Byt f o t) (m : Nat) : Byt f o (t.take m) := fun k c hk => by
  rw [List.getElem?_take] at hk
  split at hk
  · exact h k c hk
  · cases hk
set_option maxRecDepth 100000 in
set_option maxHeartbeats 4000000 in
theorem trim_any {w : World} {b : Nat} {f : Nat → Nat} {t : List Nat} {dp : Int} {ng : Bool} (H : DcAt w b f t.length dp ng false) (hf : Byt f 0 t) (hn : Nrm t) : Calls Tryz.prog 194 #[.pointer (some ⟨b, 0, none⟩)] w (RetTr w b t dp ng) := by
  have hf' := hid hf
  have hn' := hid hn
  have hL := hn.len
  have hS : TmLoop w b f t dp ng w := ⟨t.length, hn.pos, Nat.le_refl _, fun c hc => by rw [List.drop_length] at hc; exact absurd hc List.not_mem_nil, H, gr_refl _ _⟩
  have hlt := hid hn.lt
  clear H hf hn
  obtain ⟨L, hLe⟩ : ∃ L, L = t.length := ⟨_, rfl⟩
  rw [← hLe] at hL
  go_enter Tryz.func194, Tryz.ntmps194
  go_wp2
  go_loopw [] (fun w' => TmLoop w b f t dp ng w') (fun w' => ndOf b w')
  case atStart => exact hS
  case round =>
    obtain ⟨m, hm0, hmt, hz, hD, hg⟩ := hrel
    have cn := hD.cn
    have cd := hD.cd (k := m - 1) (by omega)
    have fn := hD.fr 800
    have hb := hf'.out.get (k := m - 1) (by omega)
    have hnd := hid hD.ndOf
    have e1 : (0 < m) = True := by simp [hm0]
    have e2 : IntKind.i64.wrap ((m : Int) - 1) = ((m - 1 : Nat) : Int) := by rw [IntWalk.i64_in _ (by omega)]; omega
    have e3 : ((m - 1 : Nat) : Int) < 800 := by omega
    have e4 : (0 : Int) ≤ ((m - 1 : Nat) : Int) := by omega
    have e6 : ((m : Int) == 0) = false := by simp; omega
    have hg' := hid hg
    have hz' := hid hz
    obtain ⟨c, hc⟩ : ∃ c, c = f (m - 1) := ⟨_, rfl⟩
    rw [← hc] at cd hb
    clear hg hz hc
    by_cases h0 : t.getD (m - 1) 0 = 0
    · have e5 : ((c : Int) == 48) = true := by simp; omega
      have hm1 : 0 < m - 1 := by
        apply Nat.pos_of_ne_zero
        intro hh
        rw [hh] at h0
        exact head_getD hn'.out h0
      have hz2 := hid (drop_pred hm0 hmt hz'.out h0)
      clear hb h0
      go_wp2
      go_quiet (fail)
      go_wp2
      go_roundw
      case rel => exact ⟨m - 1, hm1, by omega, hz2.out, (hD.drewN _).setN _, gr_set (gr_drewN hg'.out _) _ _⟩
      case measure => rw [((hD.drewN _).setN _).ndOf, hnd.out]; omega
    · have e5 : ((c : Int) == 48) = false := by simp; omega
      have h0' := hid h0
      clear hb h0
      go_wp2
      go_quiet (fail)
      go_wp2
      go_end0
      exact ⟨rfl, ⟨t.take m, ⟨m, hmt, rfl, hz'.out, last_getD hm0 hmt h0'.out⟩, f, by rw [List.length_take, Nat.min_eq_left hmt]; exact hD.drewN _, hf'.out.take m⟩, gr_drewN hg'.out _⟩
end Go.Proofs.YtfalbdlfopfgcaaGreatDoor

namespace Go.Proofs.YtfalbdlfopfgcaaGreatDoor
open Go.RowKit

def PlLoop (w : World) (t U : List Nat) (i : Value) (w' : World) : Prop := ∃ k : Nat, i = .int .i64 (k : Int) ∧ k ≤ U.length ∧ k ≤ t.length ∧ pless (t.drop k) (U.drop k) = pless t U ∧ Dr w w'
theorem dr_cell {w w' : World} (h : Dr w w') (p : Addr) : w'.cell? p = w.cell? p := by
  obtain ⟨n, rfl⟩ := h
  rfl
set_option maxRecDepth 100000 in
set_option maxHeartbeats 4000000 in
theorem pless_any {w : World} {b cap : Nat} {t U : List Nat} {s : ByteArray} (H : ∀ k, k < t.length → w.cell? ⟨b, k, none⟩ = some (.int .u8 ((48 + t.getD k 0 : Nat) : Int))) (hs : bys s = U.map (48 + ·)) (hU : U.length ≤ 800) (hlt : ∀ c ∈ t, c < 10) (hUlt : ∀ c ∈ U, c < 10) :
    Calls Tryz.prog 193 #[.slice (some ⟨b, 0, none⟩) t.length cap, .string s] w (RetB w (pless t U)) := by
  have hsz : s.size = U.length := by rw [← bys_len, hs, List.length_map]
  have hG := hid fun k c (h : U[k]? = some c) => bys_get (k := k) (m := 48 + c) (s := s) (by rw [hs, List.getElem?_map, h]; rfl)
  have H' := hid H
  have hlt' := hid hlt
  have hUlt' := hid hUlt
  clear H hs hlt hUlt
  obtain ⟨L, hL⟩ : ∃ L, L = t.length := ⟨_, rfl⟩
  rw [← hL]
  replace hL := hid hL
  go_enter Tryz.func193, Tryz.ntmps193
  go_wp2
  go_loopw [5] (fun i w' => PlLoop w t U i w') (fun i _ => U.length + 1 - (intOf i).toNat)
  case atStart => exact ⟨0, rfl, Nat.zero_le _, Nat.zero_le _, rfl, Dr.refl w⟩
  case round =>
    obtain ⟨k, rfl, hkU, hkt, hpl, hDr⟩ := hrel
    have hpl' := hid hpl
    clear hpl
    have hLo := hL.out
    by_cases h1 : k < U.length
    · have e1 : (k : Int) < (s.size : Int) := by omega
      obtain ⟨u, hu⟩ : ∃ u, U[k]? = some u := ⟨U[k], List.getElem?_eq_getElem h1⟩
      obtain ⟨kk, ek, -⟩ := hG.out k u hu
      have hul := hUlt'.out u (List.mem_of_getElem? hu)
      have hUd : U.drop k = u :: U.drop (k + 1) := by
        rw [List.drop_eq_getElem_cons h1]
        rw [List.getElem?_eq_getElem h1] at hu
        rw [Option.some.inj hu]
      by_cases h2 : k < t.length
      · have e2 : ¬ (L : Int) ≤ (k : Int) := by omega
        have e2' : (k : Int) < (L : Int) := by omega
        clear hLo
        have hc := H'.out k h2
        rw [← dr_cell hDr] at hc
        have htd : t.drop k = t.getD k 0 :: t.drop (k + 1) := by
          rw [List.drop_eq_getElem_cons h2, List.getD_eq_getElem?_getD, List.getElem?_eq_getElem h2]
          rfl
        have hcl : t.getD k 0 < 10 := by
          rw [List.getD_eq_getElem?_getD, List.getElem?_eq_getElem h2]
          exact hlt'.out _ (List.getElem_mem h2)
        obtain ⟨c, hcc⟩ : ∃ c, c = t.getD k 0 := ⟨_, rfl⟩
        rw [← hcc] at hc htd hcl
        obtain ⟨c8, hc8⟩ : ∃ c8, c8 = 48 + c := ⟨_, rfl⟩
        obtain ⟨u8, hu8⟩ : ∃ u8, u8 = 48 + u := ⟨_, rfl⟩
        rw [← hc8] at hc
        rw [← hu8] at ek
        by_cases h3 : c = u
        · have e3 : ((c8 : Int) != (u8 : Int)) = false := by simp; omega
          have hn : pless (t.drop (k + 1)) (U.drop (k + 1)) = pless t U := by rw [← hpl'.out, htd, hUd]; simp only [pless]; rw [if_pos h3]
          clear htd hUd hcc hc8 hu8 hu
          go_wp2
          go_quiet (fail)
          go_wp2
          go_roundw
          case rel => exact ⟨k + 1, by go_num, h1, h2, hn, hDr.trans (Dr.mk _ _)⟩
          case measure => simp [intOf] <;> omega
        · have e3 : ((c8 : Int) != (u8 : Int)) = true := by simp; omega
          have hn : Hid (decide (c8 < u8) = pless t U) := hid <| by
            rw [← hpl'.out, htd, hUd]
            simp only [pless]
            rw [if_neg h3]
            apply decide_eq_decide.2
            omega
          clear htd hUd hcc hc8 hu8 hu
          go_wp2
          go_quiet (fail)
          go_wp2
          go_quiet (fail)
          go_wp2
          go_ret
          exact ⟨by rw [← hn.out]; rfl, hDr.trans ((Dr.mk _ _).trans (Dr.mk _ _))⟩
      · have e2 : (L : Int) ≤ (k : Int) := by omega
        clear hLo
        have hn : Hid (true = pless t U) := hid <| by
          rw [← hpl'.out, hUd, List.drop_eq_nil_of_le (Nat.le_of_not_lt h2)]
          rfl
        clear hUd hu
        go_wp2
        go_ret
        exact ⟨by rw [← hn.out]; rfl, hDr⟩
    · have e1 : ¬ (k : Int) < (s.size : Int) := by omega
      have hn : Hid (false = pless t U) := hid <| by
        rw [← hpl'.out, List.drop_eq_nil_of_le (Nat.le_of_not_lt h1)]
        cases t.drop k <;> rfl
      go_wp2
      go_ret
      exact ⟨by rw [← hn.out]; rfl, hDr⟩
set_option maxRecDepth 100000 in
set_option maxHeartbeats 4000000 in
theorem sru_any {w : World} {b : Nat} {f : Nat → Nat} {t : List Nat} {dp : Int} {ng : Bool} (H : DcAt w b f t.length dp ng false) (hf : Byt f 0 t) (hn : Nrm t) (p : Int) (hp : p ≤ 1000) :
    Calls Tryz.prog 192 #[.pointer (some ⟨b, 0, none⟩), .int .i64 p] w fun e w' => e = .returned (.bool (if p < 0 then false else rup t p.toNat)) ∧ w' = w := by
  have cn := H.cn
  have ct := H.ct
  have hl := hn.len
  by_cases h1 : p < 0
  · rw [if_pos h1]
    clear H
    go_enter Tryz.func192, Tryz.ntmps192
    go_wp2
    go_ret
    exact ⟨rfl, rfl⟩
  · rw [if_neg h1]
    obtain ⟨P, rfl⟩ : ∃ P : Nat, p = P := ⟨p.toNat, by omega⟩
    rw [Int.toNat_natCast]
    have hf' := hid hf
    have hlt' := hid hn.lt
    clear hf hn
    obtain ⟨R, hR⟩ : ∃ R, R = rup t P := ⟨_, rfl⟩
    rw [← hR]
    by_cases h2 : t.length ≤ P
    · have e2 : (t.length : Int) ≤ (P : Int) := by omega
      have hr : R = false := by rw [hR]; unfold rup; rw [if_pos h2]
      rw [hr]
      clear H h1 hr hR
      go_enter Tryz.func192, Tryz.ntmps192
      go_wp2
      go_ret
      exact ⟨rfl, rfl⟩
    · have e2 : ¬ (t.length : Int) ≤ (P : Int) := by omega
      have cd := H.cd (k := P) (by omega)
      have hb := hf'.out.get (k := P) (by omega)
      obtain ⟨c, hc⟩ : ∃ c, c = f P := ⟨_, rfl⟩
      rw [← hc] at cd hb
      have hcl : t.getD P 0 < 10 := by
        rw [List.getD_eq_getElem?_getD, List.getElem?_eq_getElem (by omega)]
        exact hlt'.out _ (List.getElem_mem _)
      have e3 : (P : Int) < 800 := by omega
      by_cases h56 : t.getD P 0 = 5 ∧ P + 1 = t.length
      · have hr : R = decide (0 < P ∧ t.getD (P - 1) 0 % 2 = 1) := by rw [hR]; unfold rup; rw [if_neg h2, if_pos h56]
        obtain ⟨h5, h6⟩ := h56
        have e5 : ((c : Int) == 53) = true := by simp; omega
        have e6 : ((P : Int) + 1 == (t.length : Int)) = true := by simp; omega
        by_cases h7 : 0 < P
        · have e7 : (0 : Int) < (P : Int) := by omega
          have cd2 := H.cd (k := P - 1) (by omega)
          have hb2 := hf'.out.get (k := P - 1) (by omega)
          obtain ⟨c2, hc2⟩ : ∃ c2, c2 = f (P - 1) := ⟨_, rfl⟩
          rw [← hc2] at cd2 hb2
          have hcl2 : t.getD (P - 1) 0 < 10 := by
            rw [List.getD_eq_getElem?_getD, List.getElem?_eq_getElem (by omega)]
            exact hlt'.out _ (List.getElem_mem _)
          have e8 : (P : Int) - 1 = ((P - 1 : Nat) : Int) := by omega
          have e9 : (0 : Int) ≤ ((P - 1 : Nat) : Int) := by omega
          have e10 : ((P - 1 : Nat) : Int) < 800 := by omega
          have e11 : (48 : Int) ≤ (c2 : Int) := by omega
          have e12 : (c2 : Int) < 58 := by omega
          have o1 : Hid (R = (((c2 : Int) - 48) % 2 != 0)) := hid <| by
            rw [hr, Bool.eq_iff_iff, decide_eq_true_iff, bne_iff_ne]
            omega
          clear hb hb2 hc hc2 hr hR hcl hcl2 h5 h6 h2 h7
          go_enter Tryz.func192, Tryz.ntmps192
          go_wp2
          go_ret
          exact ⟨by rw [o1.out]; rfl, rfl⟩
        · have e7 : ¬ (0 : Int) < (P : Int) := by omega
          have o1 : Hid (R = false) := hid <| by
            rw [hr, decide_eq_false_iff_not]
            omega
          clear hb hc hr hR hcl h5 h6 h2 h7
          go_enter Tryz.func192, Tryz.ntmps192
          go_wp2
          go_ret
          exact ⟨by rw [o1.out]; rfl, rfl⟩
      · have hr : R = decide (5 ≤ t.getD P 0) := by rw [hR]; unfold rup; rw [if_neg h2, if_neg h56]
        have o1 : Hid (R = decide ((53 : Int) ≤ (c : Int))) := hid <| by
          rw [hr]
          apply decide_eq_decide.2
          omega
        have o2 : ((c : Int) == 53) = false ∨ (((c : Int) == 53) = true ∧ ((P : Int) + 1 == (t.length : Int)) = false) := by
          by_cases h5 : t.getD P 0 = 5
          · right
            refine ⟨by simp; omega, ?_⟩
            have : ¬ P + 1 = t.length := fun h => h56 ⟨h5, h⟩
            simp
            omega
          · left
            simp
            omega
        clear hb hc hr hR hcl h56 h2
        rcases o2 with e5 | ⟨e5, e6⟩
        all_goals
          go_enter Tryz.func192, Tryz.ntmps192
          go_wp2
          go_ret
          exact ⟨by rw [o1.out]; rfl, rfl⟩
end Go.Proofs.YtfalbdlfopfgcaaGreatDoor
