/- The law TokensBare returns true, whatever the texts. Condition: bytealg.MaxLen holds a number. -/
import Derived.Test.YtkjklnnjaiggdaaDoorTBarP
import Derived.Test.YtkjklnnjaiggdaaDoorTLives
namespace Go.Proofs.YtkjklnnjaiggdaaDoor
open Go.RowKit

theorem mk_app (a b : List UInt8) : mk a ++ mk b = mk (a ++ b) := by
  rw [← mk_of (mk a ++ mk b)]
  congr 1
theorem below_step {B : Nat} {w w' w'' : World} (h : Below B w w') (hb : Below w'.heap.size w' w'') (hB : B ≤ w.heap.size := by first | exact Nat.le_refl _ | omega) : Below B w w'' := h.trans (below_mono hb (Nat.le_trans hB h.size))
theorem Grid.alloc {w : World} {base : Nat} {V : Value} {rows : List (List Tok)} {vs : List Value} (h : Grid w base V rows vs) (o : Obj) : Grid (w.alloc o) base V rows vs := h.below ((Below.refl _ _).alloc (Nat.le_refl _) _)
theorem repB_len (x : UInt8) (new l : List UInt8) (k : Nat) (hk : 1 ≤ k) (hn : new.length ≤ k) : (repB x new l).length ≤ k * l.length := by
  unfold repB
  induction l with
  | nil => simp
  | cons c l ih =>
    rw [List.flatMap_cons, List.length_append, List.length_cons, Nat.mul_succ]
    split
    · omega
    · simp only [List.length_singleton]; omega
theorem Rep_any (x : UInt8) (new l : List UInt8) (m : Int) (w : World) (hm : w.cell? ⟨0, 0, none⟩ = some (.int .i64 m)) (hl : l.length ≤ 100000) (hn : new.length ≤ 3) (hne : new ≠ [x]) :
    Calls Tryd.prog 7 #[.string (mk l), .string ⟨#[x]⟩, .string (mk new)] w fun e w' => e = .returned (.string (mk (repB x new l))) ∧ Below w.heap.size w w' := by
  have hc : Lib.countB (mk l) ⟨#[x]⟩ ≤ 100000 := by
    have h1 : Lib.countB (mk l) ⟨#[x]⟩ = l.count x := Lib.count_one x l
    have := List.count_le_length (a := x) (l := l)
    omega
  have h2 : Lib.countB (mk l) ⟨#[x]⟩ * (mk new).size ≤ 100000 * 3 := Nat.mul_le_mul hc (by rw [mk_size]; exact hn)
  have h := Tryd.strings_ReplaceAll (mk l) ⟨#[x]⟩ (mk new) m w (by rw [mk_size]; omega) hm (Nat.le_refl _) (by rw [mk_size]; omega)
  have e : Lib.replaceAll (mk l).data.toList (⟨#[x]⟩ : ByteArray).data.toList (mk new).data.toList = repB x new l := replaceAll_one x new l hne
  rw [e] at h
  exact h
theorem GridS.take {w : World} {base : Nat} {a : Option Addr} {n cap : Nat} {rows : List (List (List UInt8))} {vs : List Value} (h : GridS w base (.slice a n cap) rows vs) (k : Nat) (hk : k ≤ rows.length) : GridS w base (.slice a k cap) (rows.take k) (vs.take k) := by
  have hl := h.len
  have hn : n = rows.length := by
    rcases h.out.2 with ⟨e, h0⟩ | ⟨g, c, cur, e, _⟩
    · cases e; omega
    · cases e; rfl
  have ho : w.ownsRow base 30 1 (.slice a k cap) k (vs.take k) := by
    have hx := h.out
    refine ⟨by simp; omega, ?_⟩
    rcases hx.2 with ⟨e, h0⟩ | ⟨g, c, cur, e, h1, h2, h3, h4, h5, h6⟩
    · cases e
      exact .inl ⟨by congr 1; omega, by omega⟩
    · cases e
      refine .inr ⟨g, cap, cur, rfl, h1, h2, by omega, h4, h5, ?_⟩
      rw [← h6, List.take_take]
      congr 1
      omega
  refine ⟨by simp; omega, by rw [List.length_take, Nat.min_eq_left hk]; exact ho, ?_, ?_, ?_⟩
  · intro i v r hv hr
    rw [List.getElem?_take] at hv hr
    split at hv
    · rename_i hi
      rw [if_pos hi] at hr
      exact h.row i v r hv hr
    · cases hv
  · intro i v hv
    rw [List.getElem?_take] at hv
    split at hv
    · have := h.off i v hv
      cases a <;> exact this
    · cases hv
  · intro i j v u hij hv hu
    rw [List.getElem?_take] at hv hu
    split at hv
    · split at hu
      · exact h.apart i j v u hij hv hu
      · cases hu
    · cases hv

/-- The lines that are laid. -/
def fatAll (R : List UInt8) (P : List (List UInt8)) : List (List UInt8) := P.mapIdx fun i p => fatL p (if i + 1 < P.length then 32 :: 59 :: R else [])
theorem fatAll_len (R : List UInt8) (P : List (List UInt8)) : (fatAll R P).length = P.length := by simp [fatAll]
theorem fatAll_at {R : List UInt8} {P : List (List UInt8)} {i : Nat} {p : List UInt8} (h : P[i]? = some p) : (fatAll R P)[i]? = some (fatL p (if i + 1 < P.length then 32 :: 59 :: R else [])) := by simp [fatAll, h]
theorem joinN_take {L : List (List UInt8)} {i : Nat} {x : List UInt8} (h : L[i]? = some x) : joinN (L.take (i + 1)) = joinN (L.take i) ++ ((if i = 0 then [] else [10]) ++ x) := by
  rw [take_one h]
  have hi := (List.getElem?_eq_some_iff.1 h).1
  by_cases h0 : i = 0
  · subst h0; rw [if_pos rfl]; rfl
  · rw [if_neg h0, joinN_snoc _ _ (by intro e; have := congrArg List.length e; rw [List.length_take, List.length_nil] at this; omega)]
    rfl
/-- What all comes to. -/
theorem fat_cut {s R : List UInt8} (hs : ∀ l ∈ lines s, errW l = 0) (hR : 10 ∉ R) (hl : (joinN (fatAll R (pieces s))).length ≤ 65536) :
    cutOut (joinN (fatAll R (pieces s))) = ((fatAll R (pieces s)).mapIdx rowT, 0, 0) ∧ texts ((fatAll R (pieces s)).mapIdx rowT) = (pieces s).map wordT ∧ ∀ r ∈ (fatAll R (pieces s)).mapIdx rowT, r.length ≤ 100000 := by
  have htail : ∀ i, (if i + 1 < (pieces s).length then 32 :: 59 :: R else []) = [] ∨ ∃ r, (if i + 1 < (pieces s).length then 32 :: 59 :: R else []) = 32 :: 59 :: r := by
    intro i
    split
    · exact .inr ⟨R, rfl⟩
    · exact .inl rfl
  have hpe : ∀ p ∈ pieces s, errW p = 0 := by
    intro p hp
    rcases pieces_lines s.length s (Nat.le_refl _) with h | ⟨h, _⟩
    · rw [h] at hp
      rcases List.mem_append.1 hp with hp | hp
      · exact hs p hp
      · rw [List.mem_singleton.1 hp]; rfl
    · rw [h] at hp; exact hs p hp
  have hw : ∀ (i : Nat) (p : List UInt8), wordT (fatL p (if i + 1 < (pieces s).length then 32 :: 59 :: R else [])) = wordT p ∧ errW (fatL p (if i + 1 < (pieces s).length then 32 :: 59 :: R else [])) = errW p := by
    intro i p
    have := fatL_same p _ (htail i)
    exact ⟨congrArg Prod.fst this, congrArg Prod.snd this⟩
  have herr : ∀ l ∈ fatAll R (pieces s), errW l = 0 := by
    intro l hl
    obtain ⟨i, p, hp, rfl⟩ := mapIdx_mem hl
    rw [(hw i p).2]
    exact hpe p hp
  have h10 : ∀ l ∈ fatAll R (pieces s), 10 ∉ l := by
    intro l hl hc
    obtain ⟨i, p, hp, rfl⟩ := mapIdx_mem hl
    unfold fatL at hc
    simp only [List.mem_cons, List.mem_append] at hc
    rcases hc with hc | hc | hc | hc
    · exact absurd hc (by decide)
    · exact absurd hc (by decide)
    · rcases repB_mem hc with h | ⟨h, _⟩
      · exact absurd h (by decide)
      · exact (pieces_mem _ s (Nat.le_refl _) p hp).1 h
    · split at hc
      · simp only [List.mem_cons] at hc
        rcases hc with hc | hc | hc
        · exact absurd hc (by decide)
        · exact absurd hc (by decide)
        · exact hR hc
      · cases hc
  have hne : ∀ y, (fatAll R (pieces s)).getLast? = some y → y ≠ [] := by
    intro y hy
    obtain ⟨i, p, hp, rfl⟩ := mapIdx_mem (List.mem_of_getLast? hy)
    simp [fatL]
  have hlines := lines_joinN _ h10 hne
  have hcut : cutOut (joinN (fatAll R (pieces s))) = ((fatAll R (pieces s)).mapIdx rowT, 0, 0) := by
    unfold cutOut
    rw [if_neg (by omega), hlines, cutFrom_none' herr]
  refine ⟨hcut, ?_, ?_⟩
  · rw [texts_mapIdx]
    apply List.ext_getElem?
    intro i
    rw [List.getElem?_map, List.getElem?_map]
    unfold fatAll
    rw [List.getElem?_mapIdx]
    cases (pieces s)[i]? with
    | none => rfl
    | some p => exact congrArg some (hw i p).1
  · have := cutOut_small (joinN (fatAll R (pieces s)))
    rw [hcut] at this
    exact this

theorem textsL {rows : List (List Tok)} {T : List (List (List UInt8))} {n : Nat} (hT : texts rows = T) (hn : n = T.length) (hsm : ∀ r ∈ rows, r.length ≤ 100000) (hrl : rows.length ≤ 70000) (w : World) (base : Nat) (V : Value) (va : List Value) (hG : Grid w base V rows va) :
    Calls Tryd.prog 9 #[V] w fun e w' => ∃ a c vs, e = .returned (.slice a n c) ∧ GridS w' w.heap.size (.slice a n c) T vs ∧ Below w.heap.size w w' := by
  subst hT hn
  refine (texts_any w base V rows va hG hsm hrl).mono ?_
  rintro e w' ⟨V', vs, rfl, h1, h2⟩
  obtain ⟨a, c, rfl⟩ := gridVS h1
  exact ⟨a, c, vs, rfl, h1, h2⟩
theorem textsM {rows : List (List Tok)} {T : List (List (List UInt8))} {n : Nat} (hT : texts rows = T ++ [[]]) (hn : n = T.length) (hsm : ∀ r ∈ rows, r.length ≤ 100000) (hrl : rows.length ≤ 70000) (w : World) (base : Nat) (V : Value) (va : List Value) (hG : Grid w base V rows va) :
    Calls Tryd.prog 9 #[V] w fun e w' => ∃ (g c : Nat) (vs : List Value) (ad : Option Addr) (sc : Nat), e = .returned (.slice (some ⟨g, 0, none⟩) (n + 1) c) ∧ n + 1 ≤ c ∧ w'.cell? ⟨g, n, none⟩ = some (.slice ad 0 sc) ∧ GridS w' w.heap.size (.slice (some ⟨g, 0, none⟩) n c) T (vs.take n) ∧ Below w.heap.size w w' := by
  refine (textsL (n := n + 1) hT (by rw [List.length_append, hn]; rfl) hsm hrl w base V va hG).mono ?_
  rintro e w' ⟨a, c, vs, rfl, h1, h2⟩
  obtain ⟨gb, cap, ad, _, sc, e1, _, hcb, _, _, _⟩ := gridAtS (i := n) (r := []) h1 (by rw [List.getElem?_append_right (by omega), hn, Nat.sub_self]; rfl)
  have hl : (T ++ [[]]).length = n + 1 := by rw [List.length_append, hn]; rfl
  rw [hl] at e1
  cases e1
  have hcap : n + 1 ≤ c := by
    have ho := h1.out.2
    rw [hl] at ho
    rcases ho with ⟨e, _⟩ | ⟨g, c', cur, e, _, _, h4, _⟩
    · cases e
    · cases e; exact h4
  have h3 := GridS.take h1 n (by rw [List.length_append]; omega)
  have htk : (T ++ [[]]).take n = T := by rw [hn]; simp
  rw [htk] at h3
  exact ⟨gb, c, vs, ad, sc, rfl, hcap, hcb, h3, h2⟩

def BareR (w : World) (L : List (List UInt8)) (t i : Value) (wr : World) : Prop := ∃ k : Nat, i = .int .i64 k ∧ k ≤ L.length ∧ t = .string (mk (joinN (L.take k))) ∧ (joinN (L.take k)).length ≤ 60200 ∧ (k = L.length → (joinN (L.take k)).length ≤ 60000) ∧ Below w.heap.size w wr

set_option maxRecDepth 100000 in
set_option maxHeartbeats 2000000 in
theorem TokensBare_true (s rem : List UInt8) (m : Int) (w : World) (hs : s.length ≤ maxLen) (hm : w.cell? ⟨0, 0, none⟩ = some (.int .i64 m)) : Calls Tryd.prog 3 #[.string (mk s), .string (mk rem)] w fun e w' => e = .returned (.bool true) ∧ Below w.heap.size w w' := by
  have hm0 : 0 < w.heap.size := World.block_lt_of_cell? _ _ hm
  have hmm : ∀ w', Below w.heap.size w w' → w'.cell? ⟨0, 0, none⟩ = some (.int .i64 m) := fun w' hb => (hb.cell (p := ⟨0, 0, none⟩) hm0).trans hm
  have hssz : (mk s).size = s.length := rfl
  have hrsz : (mk rem).size = rem.length := rfl
  rcases cutOut_ok s with ⟨hc, hsl, herr⟩ | ⟨x, y, hc, hx⟩
  · obtain ⟨rows, hrows⟩ : ∃ rows, rows = (lines s).mapIdx rowT := ⟨_, rfl⟩
    rw [← hrows] at hc
    have hC : ∀ w, Calls Tryd.prog 5 #[.string (mk s)] w fun e w' => ∃ V vs, e = .returned (.tuple #[V, .agg #[.int .i64 0, .int .i64 0]]) ∧ Grid w' w.heap.size V rows vs ∧ Below w.heap.size w w' := by
      intro w
      refine (Cut_any s w hs).mono ?_
      rintro e w' ⟨V, vs, h1, h2, h3⟩
      rw [hc] at h1 h2
      exact ⟨V, vs, h1, h2, h3⟩
    have HC := hid hC
    by_cases h2000 : 2000 < s.length
    · clear hC hc hrows
      generalize mk s = ss at *
      generalize mk rem = rr at *
      go_enter Tryd.func3, Tryd.ntmps3
      go_wp2_with (first | (go_at_call 5; with_reducible refine (HC.out _).mono ?_; rintro e w1 ⟨V, va, rfl, hG, hb1⟩) | (go_at_call 6; with_reducible refine (lives_any _).mono ?_; rintro e w2 ⟨rfl, hb2⟩))
      go_ret
      exact ⟨rfl, below_step (hb1.alloc hb1.size _) hb2⟩
    · by_cases h100 : 100 < rem.length
      · clear hC hc hrows
        generalize mk s = ss at *
        generalize mk rem = rr at *
        go_enter Tryd.func3, Tryd.ntmps3
        go_wp2_with (first | (go_at_call 5; with_reducible refine (HC.out _).mono ?_; rintro e w1 ⟨V, va, rfl, hG, hb1⟩) | (go_at_call 6; with_reducible refine (lives_any _).mono ?_; rintro e w2 ⟨rfl, hb2⟩))
        go_ret
        exact ⟨rfl, below_step (hb1.alloc hb1.size _) hb2⟩
      · obtain ⟨R, hR⟩ : ∃ R, R = repB 10 [] rem := ⟨_, rfl⟩
        have hRl : R.length ≤ 100 := by rw [hR]; have := repB_len 10 [] rem 1 (by omega) (by simp); omega
        have hR10 : 10 ∉ R := by
          rw [hR]
          intro h
          rcases repB_mem h with h | ⟨_, h⟩
          · cases h
          · exact h rfl
        have hRep1 := fun w hm => Rep_any 10 [] rem m w hm (by omega) (by simp) (by simp)
        rw [← hR] at hRep1
        have hRep2 := fun (p : List UInt8) (hp : p.length ≤ 2000) w hm => Rep_any 32 blanks3 p m w hm (by omega) (by decide) (by decide)
        have hSp := fun w hm => Split_any s m w (by omega) hm
        obtain ⟨P, hP⟩ : ∃ P, P = pieces s := ⟨_, rfl⟩
        obtain ⟨L, hL⟩ : ∃ L, L = fatAll R P := ⟨_, rfl⟩
        have hLP : L.length = P.length := by rw [hL, fatAll_len]
        have hpm := pieces_mem s.length s (Nat.le_refl _)
        have hpl := pieces_lines s.length s (Nat.le_refl _)
        have hlc := lines_count s
        have hfat := fat_cut (s := s) (R := R) herr hR10
        rw [← hP] at hSp hpm hpl hfat
        rw [← hL] at hfat
        have hPl : P.length ≤ 2002 ∧ 0 < P.length := by
          rcases hpl with h | ⟨h, x, M, h2, _⟩
          · rw [h]; simp; omega
          · rw [h2] at h ⊢
            have := congrArg List.length h
            simp at this ⊢
            omega
        have HM := hid hmm
        have HR1 := hid hRep1
        have HR2 := hid hRep2
        have HSp := hid hSp
        have HFAT := hid hfat
        have HPM := hid hpm
        have HPL := hid hpl
        have HL := hid hL
        have HROWS := hid hrows
        have hsm1 := cutOut_small s
        rw [hc] at hsm1
        have HSM1 := hid hsm1
        have hrl : rows.length ≤ 70000 := by rw [hrows]; simp; omega
        have HP := hid hP
        clear hC hRep1 hRep2 hSp hmm hfat hpm hpl hL hrows hsm1 hP hc hR
        obtain ⟨pn, hpn⟩ : ∃ pn, pn = P.length := ⟨_, rfl⟩
        rw [← hpn] at hLP hPl HSp
        have HPN := hid hpn
        have HLP := hid hLP
        obtain ⟨hPl1, hPl2⟩ := hPl
        clear hpn hLP
        generalize mk s = ss at *
        generalize mk rem = rr0 at *
        have hRs : (mk R).size = R.length := rfl
        obtain ⟨rr, hrr⟩ : ∃ rr, rr = mk R := ⟨_, rfl⟩
        rw [← hrr] at HR1 hRs
        have HRR := hid hrr
        clear hrr
        go_enter Tryd.func3, Tryd.ntmps3
        go_wp2_with (first | (go_at_call 5; with_reducible refine (HC.out _).mono ?_; rintro e w1 ⟨V, va, rfl, hG, hb1⟩; have B1 := hb1.alloc hb1.size (.cells #[.int .i64 0, .int .i64 0] 25); have G1 := hG.alloc (.cells #[.int .i64 0, .int .i64 0] 25); have M1 := HM.out _ B1; clear hb1 hG) | (go_at_call 7; refine (HR1.out _ M1).mono ?_; rintro e w2 ⟨rfl, hb2⟩; have B2 := below_step B1 hb2; have G2 := G1.below hb2; have M2 := HM.out _ B2; clear B1 G1 M1 hb2) | (go_at_call 8; refine (HSp.out _ M2).mono ?_; rintro e w3 ⟨rfl, hw3⟩; have HW3 := hid hw3; clear hw3))
        have hw3 := HW3.out
        clear HW3
        have hb3 : Below w2.heap.size w2 w3 := by rw [hw3]; exact (Below.refl _ _).alloc (Nat.le_refl _) _
        have hcl : ∀ i p, P[i]? = some p → w3.cell? ⟨w2.heap.size, i, none⟩ = some (.string (mk p)) := by
          intro i p h
          rw [hw3, World.cell?_alloc_new]
          simp [h]
        have hnb : w2.heap.size < w3.heap.size := by rw [hw3]; simp
        have B3 := below_step B2 hb3
        have G3 := G2.below hb3
        generalize w2.heap.size = NB at *
        have HCL := hid hcl
        clear hw3 hb3 B2 G2 M2 hcl
        go_loopw [8, 9] (fun t i w' => BareR w3 L t i w') (fun _ i _ => pn + 1 - (intOf i).toNat)
        case atStart => exact ⟨0, rfl, by omega, rfl, by simp [joinN], by intro h; have := HLP.out; omega, Below.refl _ _⟩
        case round =>
          obtain ⟨i, rfl, hi, rfl, hl1, hl2, hb⟩ := hrel
          rw [HLP.out] at hi hl2
          have hz := hb.size
          by_cases hil : i < pn
          · obtain ⟨p, hp⟩ : ∃ p, P[i]? = some p := ⟨P[i]'(by rw [← HPN.out]; exact hil), by simp⟩
            have hpl := (HPM.out p (List.mem_of_getElem? hp)).2
            have hLi : L[i]? = some (fatL p (if i + 1 < pn then 32 :: 59 :: R else [])) := by rw [HL.out, HPN.out]; exact fatAll_at hp
            have hnx := joinN_take hLi
            have hcell := (hb.cell (p := ⟨NB, i, none⟩) hnb).trans (HCL.out i p hp)
            have hRp := hid fun w hm => HR2.out p (by omega) w hm
            have hMw := HM.out _ (below_step B3 hb)
            obtain ⟨rp, hrp⟩ : ∃ rp, rp = mk (repB 32 blanks3 p) := ⟨_, rfl⟩
            have hrps : rp.size ≤ 6000 := by rw [hrp, mk_size]; have := repB_len 32 blanks3 p 3 (by omega) (by decide); omega
            obtain ⟨tl, htl⟩ : ∃ tl, tl = joinN (L.take i) := ⟨_, rfl⟩
            obtain ⟨ta, hta⟩ : ∃ ta, ta = mk tl := ⟨_, rfl⟩
            have htas : ta.size = tl.length := by rw [hta]; rfl
            rw [← htl] at hnx hl1 hl2 ⊢
            rw [← hta]
            rw [← hrp] at hRp
            rw [← htas] at hl1
            obtain ⟨rpn, hrpn⟩ : ∃ n, n = rp.size := ⟨_, rfl⟩
            obtain ⟨tan, htan⟩ : ∃ n, n = ta.size := ⟨_, rfl⟩
            rw [← hrpn] at hrps
            rw [← htan] at hl1
            have hs1 : rp.size = rpn := hrpn.symm
            have hs2 : ta.size = tan := htan.symm
            have HTA := hid hta
            have HRP := hid hrp
            have HNX := hid hnx
            have HTAS := hid htas
            clear hp hLi hnx hrp htl hta htas hrpn htan hl2
            by_cases hi0 : i = 0
            · subst hi0
              by_cases hbig : 60000 < tan + 2 + rpn
              · have g1 : (60000 : Int) < (tan : Int) + 2 + (rpn : Int) := by omega
                go_wp2_with (go_at_call 7; refine (hRp.out _ hMw).mono ?_; rintro e w5 ⟨rfl, hb5⟩)
                go_ret
                exact ⟨rfl, below_step (below_step B3 hb) hb5⟩
              · have g1 : (tan : Int) + 2 + (rpn : Int) ≤ (60000 : Int) := by omega
                by_cases hlast : 0 + 1 < pn
                · have hN := HNX.out
                  rw [if_pos hlast] at hN
                  rw [if_pos rfl] at hN
                  have hEq : mk tl ++ mk [9, 32] ++ mk (repB 32 blanks3 p) ++ mk [32, 59] ++ mk R = mk (joinN (L.take (0 + 1))) := by
                    rw [hN, mk_app, mk_app, mk_app, mk_app]
                    congr 1
                    simp [fatL]
                  have hLen := congrArg List.length hN
                  simp only [fatL, List.length_append, List.length_cons, List.length_nil] at hLen
                  have hLb : (joinN (L.take (0 + 1))).length ≤ 60200 := by
                    have e1 := HTAS.out
                    have e2 : rpn = (repB 32 blanks3 p).length := by rw [← hs1, HRP.out]; rfl
                    omega
                  have HE := hid hEq
                  have HB := hid hLb
                  clear hN hEq hLen hLb
                  have g2 : (0 : Int) < (pn : Int) - 1 := by omega
                  go_wp2_with (go_at_call 7; refine (hRp.out _ hMw).mono ?_; rintro e w5 ⟨rfl, hb5⟩)
                  go_roundw
                  case rel => exact ⟨0 + 1, by go_num, by rw [HLP.out]; omega, by rw [HTA.out, HRP.out, HRR.out]; exact congrArg Value.string HE.out, HB.out, (fun h => by have := HLP.out; omega), below_step hb hb5⟩
                  case measure => simp [intOf] <;> omega
                · have hN := HNX.out
                  rw [if_neg hlast] at hN
                  rw [if_pos rfl] at hN
                  have hEq : mk tl ++ mk [9, 32] ++ mk (repB 32 blanks3 p) = mk (joinN (L.take (0 + 1))) := by
                    rw [hN, mk_app, mk_app]
                    congr 1
                    simp [fatL]
                  have hLen := congrArg List.length hN
                  simp only [fatL, List.length_append, List.length_cons, List.length_nil] at hLen
                  have hLb : (joinN (L.take (0 + 1))).length ≤ 60200 ∧ (joinN (L.take (0 + 1))).length ≤ 60000 := by
                    have e1 := HTAS.out
                    have e2 : rpn = (repB 32 blanks3 p).length := by rw [← hs1, HRP.out]; rfl
                    omega
                  have HE := hid hEq
                  have HB := hid hLb
                  clear hN hEq hLen hLb
                  have g2 : (pn : Int) - 1 ≤ (0 : Int) := by omega
                  go_wp2_with (go_at_call 7; refine (hRp.out _ hMw).mono ?_; rintro e w5 ⟨rfl, hb5⟩)
                  go_roundw
                  case rel => exact ⟨0 + 1, by go_num, by rw [HLP.out]; omega, by rw [HTA.out, HRP.out]; exact congrArg Value.string HE.out, HB.out.1, (fun _ => HB.out.2), below_step hb hb5⟩
                  case measure => simp [intOf] <;> omega
            · have hi1 : (0 : Int) < (i : Int) := by omega
              by_cases hbig : 60000 < tan + 1 + 2 + rpn
              · have g1 : (60000 : Int) < (tan : Int) + 1 + 2 + (rpn : Int) := by omega
                go_wp2_with (go_at_call 7; refine (hRp.out _ hMw).mono ?_; rintro e w5 ⟨rfl, hb5⟩)
                go_ret
                exact ⟨rfl, below_step (below_step B3 hb) hb5⟩
              · have g1 : (tan : Int) + 1 + 2 + (rpn : Int) ≤ (60000 : Int) := by omega
                by_cases hlast : i + 1 < pn
                · have hN := HNX.out
                  rw [if_pos hlast] at hN
                  rw [if_neg hi0] at hN
                  have hEq : mk tl ++ mk [10] ++ mk [9, 32] ++ mk (repB 32 blanks3 p) ++ mk [32, 59] ++ mk R = mk (joinN (L.take (i + 1))) := by
                    rw [hN, mk_app, mk_app, mk_app, mk_app, mk_app]
                    congr 1
                    simp [fatL]
                  have hLen := congrArg List.length hN
                  simp only [fatL, List.length_append, List.length_cons, List.length_nil] at hLen
                  have hLb : (joinN (L.take (i + 1))).length ≤ 60200 := by
                    have e1 := HTAS.out
                    have e2 : rpn = (repB 32 blanks3 p).length := by rw [← hs1, HRP.out]; rfl
                    omega
                  have HE := hid hEq
                  have HB := hid hLb
                  clear hN hEq hLen hLb
                  have g2 : ((i : Int) : Int) < (pn : Int) - 1 := by omega
                  go_wp2_with (go_at_call 7; refine (hRp.out _ hMw).mono ?_; rintro e w5 ⟨rfl, hb5⟩)
                  go_roundw
                  case rel => exact ⟨i + 1, by go_num, by rw [HLP.out]; omega, by rw [HTA.out, HRP.out, HRR.out]; exact congrArg Value.string HE.out, HB.out, (fun h => by have := HLP.out; omega), below_step hb hb5⟩
                  case measure => simp [intOf] <;> omega
                · have hN := HNX.out
                  rw [if_neg hlast] at hN
                  rw [if_neg hi0] at hN
                  have hEq : mk tl ++ mk [10] ++ mk [9, 32] ++ mk (repB 32 blanks3 p) = mk (joinN (L.take (i + 1))) := by
                    rw [hN, mk_app, mk_app, mk_app]
                    congr 1
                    simp [fatL]
                  have hLen := congrArg List.length hN
                  simp only [fatL, List.length_append, List.length_cons, List.length_nil] at hLen
                  have hLb : (joinN (L.take (i + 1))).length ≤ 60200 ∧ (joinN (L.take (i + 1))).length ≤ 60000 := by
                    have e1 := HTAS.out
                    have e2 : rpn = (repB 32 blanks3 p).length := by rw [← hs1, HRP.out]; rfl
                    omega
                  have HE := hid hEq
                  have HB := hid hLb
                  clear hN hEq hLen hLb
                  have g2 : (pn : Int) - 1 ≤ ((i : Int) : Int) := by omega
                  go_wp2_with (go_at_call 7; refine (hRp.out _ hMw).mono ?_; rintro e w5 ⟨rfl, hb5⟩)
                  go_roundw
                  case rel => exact ⟨i + 1, by go_num, by rw [HLP.out]; omega, by rw [HTA.out, HRP.out]; exact congrArg Value.string HE.out, HB.out.1, (fun _ => HB.out.2), below_step hb hb5⟩
                  case measure => simp [intOf] <;> omega
          · obtain rfl : i = pn := by omega
            have htk : L.take i = L := List.take_of_length_le (by rw [HLP.out]; omega)
            rw [htk] at hl2 ⊢
            have hl3 := hl2 rfl
            obtain ⟨hf1, hf2, hf3⟩ := HFAT.out (by omega)
            obtain ⟨rows2, hr2⟩ : ∃ rows2, rows2 = L.mapIdx rowT := ⟨_, rfl⟩
            rw [← hr2] at hf1 hf2 hf3
            have hrl2 : rows2.length ≤ 70000 := by rw [hr2, List.length_mapIdx, HLP.out]; omega
            have hC2 : ∀ w, Calls Tryd.prog 5 #[.string (mk (joinN L))] w fun e w' => ∃ V vs, e = .returned (.tuple #[V, .agg #[.int .i64 0, .int .i64 0]]) ∧ Grid w' w.heap.size V rows2 vs ∧ Below w.heap.size w w' := by
              intro w
              refine (Cut_any (joinN L) w (by unfold maxLen; omega)).mono ?_
              rintro e w' ⟨V, vs, h1, h2, h3⟩
              rw [hf1] at h1 h2
              exact ⟨V, vs, h1, h2, h3⟩
            obtain ⟨tA, htA⟩ : ∃ tA, tA = (lines s).map wordT := ⟨_, rfl⟩
            have htx1 : texts rows = tA := by rw [HROWS.out, texts_mapIdx, htA]
            have htx2 : (texts rows2 = tA ++ [[]]) ∨ texts rows2 = tA := by
              rw [hf2, htA]
              rcases HPL.out with h | ⟨h, _⟩
              · exact .inl (by rw [h, List.map_append]; rfl)
              · exact .inr (by rw [h])
            have HC2 := hid hC2
            obtain ⟨na, hna⟩ : ∃ na, na = tA.length := ⟨_, rfl⟩
            have hnab : na ≤ 70000 := by rw [hna, ← htx1]; simp [texts]; omega
            have HTX := hid htx1
            have HNA0 := hid hna
            have HT1 := hid fun w base V vs hG => textsL HTX.out HNA0.out HSM1.out hrl w base V vs hG
            clear htx1
            have G4 := hid (G3.below hb)
            have B4 := hid (below_step B3 hb)
            have HNA := hid hna
            have HF3 := hid hf3
            clear hC2 hf1 hf2 hf3 hr2 htA htk hna
            obtain ⟨tb, htb⟩ : ∃ tb, tb = mk (joinN L) := ⟨_, rfl⟩
            rw [← htb] at HC2 ⊢
            clear htb
            rcases htx2 with h2 | h2
            · have H2 := hid h2
              clear h2
              have HT2 := hid fun w base V vs hG => textsM H2.out HNA.out HF3.out hrl2 w base V vs hG
              go_wp2_with (first | (go_at_call 5; with_reducible refine (HC2.out _).mono ?_; rintro e w5 ⟨V2, vb, rfl, hG2, hb5⟩; have B5 := below_step B4.out hb5; have c5 := B5.alloc B5.size (.cells #[.int .i64 0, .int .i64 0] 25); have G5 := (G4.out.below hb5).alloc (.cells #[.int .i64 0, .int .i64 0] 25); have H5 := hG2.alloc (.cells #[.int .i64 0, .int .i64 0] 25); clear hb5 B5 hG2) | (go_at_call 6; with_reducible refine (lives_any _).mono ?_; rintro e w6 ⟨rfl, hb6⟩; have G6 := G5.below hb6; have H6 := H5.below hb6; have c6 := below_step c5 hb6; clear G5 H5 hb6 c5) | (go_at_call 9; first | (with_reducible refine (HT1.out _ _ _ _ G6).mono ?_; rintro e w7 ⟨a1, d1, v1, rfl, hS1, hb7⟩; have H7 := H6.below hb7; have c7 := below_step c6 hb7; clear c6 hb7 H6 G6) | (with_reducible refine (HT2.out _ _ _ _ H7).mono ?_; rintro e w8 ⟨g2, d2, v2, ad2, sc2, rfl, hcap, hcb, hS2, hb8⟩; have hS1' := hS1.below hb8; have c8 := below_step c7 hb8; have HS1 := hid hS1'; have HS2 := hid hS2; clear hS1' hS1 hS2 hb8 c7 H7)) | (go_at_call 10; with_reducible refine (sameTexts_any _ _ _ _ _ tA _ _ HS1.out HS2.out).mono ?_; rintro e w9 ⟨rfl, n9, rfl⟩))
              go_ret
              exact ⟨rfl, below_drewN' c8 _⟩
            · have H2 := hid h2
              clear h2
              have HT2 := hid fun w base V vs hG => textsL H2.out HNA.out HF3.out hrl2 w base V vs hG
              have hnn : ((na : Int) == (na : Int) + 1) = false := by simp only [beq_eq_false_iff_ne, ne_eq]; omega
              go_wp2_with (first | (go_at_call 5; with_reducible refine (HC2.out _).mono ?_; rintro e w5 ⟨V2, vb, rfl, hG2, hb5⟩; have B5 := below_step B4.out hb5; have c5 := B5.alloc B5.size (.cells #[.int .i64 0, .int .i64 0] 25); have G5 := (G4.out.below hb5).alloc (.cells #[.int .i64 0, .int .i64 0] 25); have H5 := hG2.alloc (.cells #[.int .i64 0, .int .i64 0] 25); clear hb5 B5 hG2) | (go_at_call 6; with_reducible refine (lives_any _).mono ?_; rintro e w6 ⟨rfl, hb6⟩; have G6 := G5.below hb6; have H6 := H5.below hb6; have c6 := below_step c5 hb6; clear G5 H5 hb6 c5) | (go_at_call 9; first | (with_reducible refine (HT1.out _ _ _ _ G6).mono ?_; rintro e w7 ⟨a1, d1, v1, rfl, hS1, hb7⟩; have H7 := H6.below hb7; have c7 := below_step c6 hb7; clear c6 hb7 H6 G6) | (with_reducible refine (HT2.out _ _ _ _ H7).mono ?_; rintro e w8 ⟨a2, d2, v2, rfl, hS2, hb8⟩; have hS1' := hS1.below hb8; have c8 := below_step c7 hb8; have HS1 := hid hS1'; have HS2 := hid hS2; clear hS1' hS1 hS2 hb8 c7 H7)) | (go_at_call 10; with_reducible refine (sameTexts_any _ _ _ _ _ tA _ _ HS1.out HS2.out).mono ?_; rintro e w9 ⟨rfl, n9, rfl⟩))
              go_ret
              exact ⟨rfl, below_drewN' c8 _⟩
  · have hC : ∀ w, Calls Tryd.prog 5 #[.string (mk s)] w fun e w' => ∃ V, e = .returned (.tuple #[V, .agg #[.int .i64 x, .int .i64 y]]) ∧ Below w.heap.size w w' := by
      intro w
      refine (Cut_any s w hs).mono ?_
      rintro e w' ⟨V, vs, h1, h2, h3⟩
      rw [hc] at h1
      exact ⟨V, h1, h3⟩
    have HC := hid hC
    have hx' : (x == 0) = false := by simpa using hx
    clear hC hc
    generalize mk s = ss at *
    generalize mk rem = rr at *
    go_enter Tryd.func3, Tryd.ntmps3
    go_wp2_with (go_at_call 5; with_reducible refine (HC.out _).mono ?_)
    rintro e w1 ⟨V, rfl, hb1⟩
    go_wp2_with (go_at_call 6; with_reducible refine (lives_any _).mono ?_; rintro e w2 ⟨rfl, hb2⟩)
    go_ret
    exact ⟨rfl, below_step (hb1.alloc hb1.size _) hb2⟩

theorem TokensBare_walk (s r : ByteArray) (w : World) (hs : s.size ≤ 140737488351232) (m : Int) (hm : w.cell? ⟨0, 0, none⟩ = some (.int .i64 m)) : Calls Tryd.prog 3 #[.string s, .string r] w fun e w' => e = .returned (.bool true) ∧ Below w.heap.size w w' := by
  rw [← mk_of s, ← mk_of r]
  exact TokensBare_true _ _ m w (by unfold maxLen; simp; omega) hm
end Go.Proofs.YtkjklnnjaiggdaaDoor
