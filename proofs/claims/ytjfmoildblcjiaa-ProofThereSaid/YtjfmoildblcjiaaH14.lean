/- What is proved here: the contracts of proof.walk and proof.Check. -/
import Derived.Test.YtjfmoildblcjiaaH13
import Derived.Stop.RegionWithIn
namespace Go.Proofs.Ytjfmoildblcjiaa.H14
open Go.RowKit Go.Proofs.YtjfmoildblcjiaaW.PrintWords Go.Proofs.YtjfmoildblcjiaaW.PrintLast Go.Proofs.YtjfmoildblcjiaaW.PrintMore Go.Proofs.Ytjfmoildblcjiaa.QK Go.Proofs.Ytjfmoildblcjiaa.H1 Go.Proofs.Ytjfmoildblcjiaa.H2 Go.Proofs.Ytjfmoildblcjiaa.H4 Go.Proofs.Ytjfmoildblcjiaa.H9 Go.Proofs.Ytjfmoildblcjiaa.H10 Go.Proofs.Ytjfmoildblcjiaa.H11 Go.Proofs.Ytjfmoildblcjiaa.H12 Go.Proofs.Ytjfmoildblcjiaa.HR Go.Proofs.Ytjfmoildblcjiaa.H13
open Go.Shelf
attribute [local go_sem] Oper.semAt_some

def resFrom (er : Nat → Int) (ls : List S39) : Nat → Nat → Bool × Int × Int
  | 0, _ => (false, 0, 0)
  | n + 1, i => if er i ≠ 0 then (false, (i : Int), er i) else if isEnd (rd_T39 ls (i : Int)) = true then (true, (i : Int), 0) else resFrom er ls n (i + 1)
def walkE (v : Int) (cs : List (List Int)) (ls : List S39) (er : Nat → Int) : Bool × Int × Int :=
  if (checkE v cs).2 ≠ 0 then (false, 0, (checkE v cs).2) else if checkP ls ≠ 0 then (false, 0, checkP ls) else resFrom er ls ls.length 0

set_option maxHeartbeats 1000000 in
set_option maxRecDepth 100000 in
theorem steps_any (q : Option Addr) (A : Option Addr) (n c : Nat) (w : World) :
    Calls Try.prog 39 #[.pointer q, .slice A n c] w fun e w' => e = .returned (.func (.func 56) #[] #[.pointer (some ⟨w.heap.size + 1, 0, none⟩), .pointer (some ⟨w.heap.size, 0, none⟩)]) ∧ w' = (w.alloc (.cells #[.pointer q] 47)).alloc (.cells #[.slice A n c] 37) := by
  go_enter Try.func39, Try.ntmps39
  go_wp2
  go_ret
  exact ⟨rfl, rfl⟩

def six (w : World) (o0 o1 o2 o3 o4 o5 : Obj) : World := (((((w.alloc o0).alloc o1).alloc o2).alloc o3).alloc o4).alloc o5
theorem six_eq (w : World) (o0 o1 o2 o3 o4 o5 : Obj) : (((((w.alloc o0).alloc o1).alloc o2).alloc o3).alloc o4).alloc o5 = six w o0 o1 o2 o3 o4 o5 := rfl
theorem six_heap (w : World) (o0 o1 o2 o3 o4 o5 : Obj) : (six w o0 o1 o2 o3 o4 o5).heap = w.heap ++ #[o0, o1, o2, o3, o4, o5] := by
  show (((((w.heap.push o0).push o1).push o2).push o3).push o4).push o5 = _
  apply Array.ext'
  simp only [Array.toList_push, Array.toList_append, List.append_assoc, List.cons_append, List.nil_append]
theorem six_size (w : World) (o0 o1 o2 o3 o4 o5 : Obj) : (six w o0 o1 o2 o3 o4 o5).heap.size = w.heap.size + 6 := by rw [six_heap]; simp
theorem six_get (w : World) (o0 o1 o2 o3 o4 o5 : Obj) (i : Nat) (hi : i < 6) : (six w o0 o1 o2 o3 o4 o5).heap[w.heap.size + i]? = #[o0, o1, o2, o3, o4, o5][i]? := by
  rw [six_heap, Array.getElem?_append_right (by omega)]
  congr 1
  omega
theorem six_below (w : World) (o0 o1 o2 o3 o4 o5 : Obj) : Below w.heap.size w (six w o0 o1 o2 o3 o4 o5) := by
  unfold six
  exact below_alloc (below_alloc (below_alloc (below_alloc (below_alloc (below_alloc (Below.refl _ _) _) _) _) _) _) _

/-- Four one-cell blocks are written, one behind the other. -/
def four (w : World) (b2 b3 b4 b5 : Nat) (x2 x3 x4 x5 : Value) : World := (((w.setCell ⟨b2, 0, none⟩ x2).setCell ⟨b3, 0, none⟩ x3).setCell ⟨b4, 0, none⟩ x4).setCell ⟨b5, 0, none⟩ x5
structure Cells4 (w : World) (b2 b3 b4 b5 : Nat) (x2 x3 x4 x5 : Value) : Prop where
  h2 : w.heap[b2]? = some (.cells #[x2] 47 (0, 0))
  h3 : w.heap[b3]? = some (.cells #[x3] 4 (0, 0))
  h4 : w.heap[b4]? = some (.cells #[x4] 3 (0, 0))
  h5 : w.heap[b5]? = some (.cells #[x5] 29 (0, 0))
theorem Cells4.four {w : World} {b2 b3 b4 b5 : Nat} {y2 y3 y4 y5 : Value} (h : Cells4 w b2 b3 b4 b5 y2 y3 y4 y5) (h23 : b2 < b3) (h34 : b3 < b4) (h45 : b4 < b5) (x2 x3 x4 x5 : Value) : Cells4 (four w b2 b3 b4 b5 x2 x3 x4 x5) b2 b3 b4 b5 x2 x3 x4 x5 := by
  unfold H14.four
  refine ⟨?_, ?_, ?_, ?_⟩
  · exact blk_far (blk_far (blk_far (by simpa using blk_set h.h2 0 x2) (by show b2 ≠ b3; omega) x3) (by show b2 ≠ b4; omega) x4) (by show b2 ≠ b5; omega) x5
  · exact blk_far (blk_far (by simpa using blk_set (blk_far h.h3 (p := ⟨b2, 0, none⟩) (by show b3 ≠ b2; omega) x2) 0 x3) (by show b3 ≠ b4; omega) x4) (by show b3 ≠ b5; omega) x5
  · exact blk_far (by simpa using blk_set (blk_far (blk_far h.h4 (p := ⟨b2, 0, none⟩) (by show b4 ≠ b2; omega) x2) (p := ⟨b3, 0, none⟩) (by show b4 ≠ b3; omega) x3) 0 x4) (by show b4 ≠ b5; omega) x5
  · simpa using blk_set (blk_far (blk_far (blk_far h.h5 (p := ⟨b2, 0, none⟩) (by show b5 ≠ b2; omega) x2) (p := ⟨b3, 0, none⟩) (by show b5 ≠ b3; omega) x3) (p := ⟨b4, 0, none⟩) (by show b5 ≠ b4; omega) x4) 0 x5
theorem Cells4.low {B : Nat} {w w' : World} {b2 b3 b4 b5 : Nat} {y2 y3 y4 y5 : Value} (h : Cells4 w b2 b3 b4 b5 y2 y3 y4 y5) (hb : Below B w w') (h2 : b2 < B) (h3 : b3 < B) (h4 : b4 < B) (h5 : b5 < B) : Cells4 w' b2 b3 b4 b5 y2 y3 y4 y5 :=
  ⟨(hb.block _ h2).trans h.h2, (hb.block _ h3).trans h.h3, (hb.block _ h4).trans h.h4, (hb.block _ h5).trans h.h5⟩
theorem four_ko (w : World) (b2 b3 b4 b5 : Nat) (x2 x3 x4 x5 : Value) : KeepsOthers w (four w b2 b3 b4 b5 x2 x3 x4 x5) :=
  (((KeepsOthers.setCell _ _ _).trans (KeepsOthers.setCell _ _ _)).trans (KeepsOthers.setCell _ _ _)).trans (KeepsOthers.setCell _ _ _)
theorem four_below {B : Nat} {w0 w : World} (h : Below B w0 w) {b2 b3 b4 b5 : Nat} (hb : B ≤ b2) (h23 : b2 < b3) (h34 : b3 < b4) (h45 : b4 < b5) (x2 x3 x4 x5 : Value) : Below B w0 (four w b2 b3 b4 b5 x2 x3 x4 x5) :=
  (((h.setCell (show B ≤ b2 from hb) _).setCell (show B ≤ b3 by omega) _).setCell (show B ≤ b4 by omega) _).setCell (show B ≤ b5 by omega) _

theorem finish4 {w : World} {b2 b3 b4 b5 D : Nat} {x2 x3 x4 x5 : Value} {ds : Option (List Deferred)} (h : Cells4 w b2 b3 b4 b5 x2 x3 x4 x5) (hD : w.heap[D]? = some (.deferred ds)) (o : Obj) :
    (w.putObj D o).cell? ⟨b2, 0, none⟩ = some x2 ∧ (w.putObj D o).cell? ⟨b3, 0, none⟩ = some x3 ∧ (w.putObj D o).cell? ⟨b4, 0, none⟩ = some x4 ∧ (w.putObj D o).cell? ⟨b5, 0, none⟩ = some x5 := by
  have key : ∀ {b : Nat} {x : Value} {t : Nat}, w.heap[b]? = some (.cells #[x] t (0, 0)) → (w.putObj D o).cell? ⟨b, 0, none⟩ = some x := fun {b x t} hb => by
    have hne : b ≠ D := fun e => by subst e; rw [hb] at hD; cases hD
    have h2 := (World.putObj_heap_other (w := w) (o := o) hne).trans hb
    simp only [World.cell?, h2]
    rfl
  exact ⟨key h.h2, key h.h3, key h.h4, key h.h5⟩

theorem four_cells {w : World} {b2 b3 b4 b5 : Nat} {x2 x3 x4 x5 : Value} (h : Cells4 w b2 b3 b4 b5 x2 x3 x4 x5) :
    w.cell? ⟨b2, 0, none⟩ = some x2 ∧ w.cell? ⟨b3, 0, none⟩ = some x3 ∧ w.cell? ⟨b4, 0, none⟩ = some x4 ∧ w.cell? ⟨b5, 0, none⟩ = some x5 :=
  ⟨by simp only [World.cell?, h.h2]; rfl, by simp only [World.cell?, h.h3]; rfl, by simp only [World.cell?, h.h4]; rfl, by simp only [World.cell?, h.h5]; rfl⟩

def Fine (er : Nat → Int) (ls : List S39) (k : Nat) : Prop := ∀ i, i < k → er i = 0 ∧ isEnd (rd_T39 ls (i : Int)) = false
theorem res_skip (er : Nat → Int) (ls : List S39) : ∀ (n i j : Nat), Fine er ls (i + j) → resFrom er ls (j + n) i = resFrom er ls n (i + j)
  | n, i, 0, _ => by rw [Nat.zero_add, Nat.add_zero]
  | n, i, j + 1, h => by
    have h1 := h i (by omega)
    rw [show j + 1 + n = (j + n) + 1 by omega, resFrom, if_neg (by rw [h1.1]; simp), if_neg (by rw [h1.2]; simp), res_skip er ls n (i + 1) j (by rw [show i + 1 + j = i + (j + 1) by omega]; exact h)]
    congr 1
    omega
theorem res_all {er : Nat → Int} {ls : List S39} (h : Fine er ls ls.length) : resFrom er ls ls.length 0 = (false, 0, 0) := by
  have := res_skip er ls 0 0 ls.length (by rwa [Nat.zero_add])
  rw [Nat.add_zero] at this
  rw [this]; rfl
theorem res_err {er : Nat → Int} {ls : List S39} {k : Nat} (hk : k < ls.length) (h : Fine er ls k) (he : er k ≠ 0) : resFrom er ls ls.length 0 = (false, (k : Int), er k) := by
  have := res_skip er ls (ls.length - k) 0 k (by rwa [Nat.zero_add])
  rw [show k + (ls.length - k) = ls.length by omega, Nat.zero_add] at this
  rw [this, show ls.length - k = (ls.length - k - 1) + 1 by omega, resFrom, if_pos he]
theorem res_end {er : Nat → Int} {ls : List S39} {k : Nat} (hk : k < ls.length) (h : Fine er ls k) (he : er k = 0) (hd : isEnd (rd_T39 ls (k : Int)) = true) : resFrom er ls ls.length 0 = (true, (k : Int), 0) := by
  have := res_skip er ls (ls.length - k) 0 k (by rwa [Nat.zero_add])
  rw [show k + (ls.length - k) = ls.length by omega, Nat.zero_add] at this
  rw [this, show ls.length - k = (ls.length - k - 1) + 1 by omega, resFrom, if_neg (by rw [he]; simp), if_pos hd]
theorem pairs_inj {er : Nat → Int} {i j : Nat} (h : pairs er i = pairs er j) : i = j := by rw [← pairs_length er i, h, pairs_length]

set_option maxHeartbeats 4000000 in
set_option maxRecDepth 100000 in
theorem walk_any (v : Int) (A : Option Addr) (c : Nat) (cs : List (List Int)) (A1 : Option Addr) (c1 : Nat) (ls : List S39) (st : Nat → Int × List (List Int)) (er : Nat → Int) (w : World)
    (hr : Kd.C (Kd.slice 3 (Kd.int .i64)) w A cs.length cs) (hc : cs.length ≤ c) (hr1 : Kd.C k39 w A1 ls.length ls) (hc1 : ls.length ≤ c1)
    (hst : st 0 = (v, cs))
    (hdo : (checkE v cs).2 = 0 → checkP ls = 0 → ∀ base g, w.heap.size ≤ base → ∀ k, k < ls.length → (∀ i, i < k → er i = 0 ∧ isEnd (rd_T39 ls (i : Int)) = false) → DoAt w base g (st k) (rd_T39 ls (k : Int)) (er k) (st (k + 1))) :
    Calls Try.prog 27 #[.agg #[.int .i64 v, .slice A cs.length c], .slice A1 ls.length c1] w fun e w' =>
      (∃ p, e = .returned (.tuple #[p, .bool (walkE v cs ls er).1, .int .i64 (walkE v cs ls er).2.1, .int .i64 (walkE v cs ls er).2.2])) ∧ Below w.heap.size w w' := by
  have HR := Aside0.mk hr
  have HC := Aside0.mk hc
  have HR1 := Aside0.mk hr1
  have HC1 := Aside0.mk hc1
  have HST := Aside0.mk hst
  have HDO := Aside0.mk hdo
  clear hr hc hr1 hc1 hst hdo
  by_cases h0 : (checkE v cs).2 = 0
  · have d0 : ((checkE v cs).2 != 0) = false := bne_eq_false_iff_eq.2 h0
    have HZ := Aside0.mk h0
    clear h0
    generalize hce : checkE v cs = ce at *
    have HCE := Aside0.mk hce
    clear hce
    by_cases h1 : checkP ls = 0
    · have d1 : (checkP ls != 0) = false := bne_eq_false_iff_eq.2 h1
      have HZ1 := Aside0.mk h1
      clear h1
      generalize hcp : checkP ls = cp at *
      have HCP := Aside0.mk hcp
      clear hcp
      refine (callsIn_wide (n := 3)).1 ?_
      refine callsIn_of_wp_marks Try.func27 rfl trivial ?_ rfl
      simp only [Try.ntmps27, List.size_toArray, List.length_cons, List.length_nil, Nat.reduceAdd, Nat.reduceSub, Array.replicate_succ, Array.replicate_zero, List.push_toArray, List.append_toArray, List.nil_append, List.cons_append]
      gi_wp2_with fail
      rw [six_eq]
      obtain ⟨WA, hWA⟩ : ∃ WA, WA = six w (.cells #[.int .i64 v, .slice A cs.length c] 24) (.cells #[.slice A1 ls.length c1] 37) (.cells #[.pointer none] 47) (.cells #[.bool false] 4) (.cells #[.int .i64 0] 3) (.cells #[.int .i64 0] 29) := ⟨_, rfl⟩
      rw [← hWA]
      have HSA : Aside0 (WA.heap.size = w.heap.size + 6) := ⟨by rw [hWA]; exact six_size _ _ _ _ _ _ _⟩
      have HWA : Aside0 (Below w.heap.size w WA) := ⟨by rw [hWA]; exact six_below _ _ _ _ _ _ _⟩
      have HB0 : Aside0 (WA.heap[w.heap.size]? = some (.cells #[.int .i64 v, .slice A cs.length c] 24 (0, 0))) := ⟨by rw [hWA]; exact six_get _ _ _ _ _ _ _ 0 (by decide)⟩
      have HB1 : Aside0 (WA.heap[w.heap.size + 1]? = some (.cells #[.slice A1 ls.length c1] 37 (0, 0))) := ⟨by rw [hWA]; exact six_get _ _ _ _ _ _ _ 1 (by decide)⟩
      have HB2 : Aside0 (WA.heap[w.heap.size + 1 + 1]? = some (.cells #[.pointer none] 47 (0, 0))) := ⟨by rw [hWA]; exact six_get _ _ _ _ _ _ _ 2 (by decide)⟩
      have HB3 : Aside0 (WA.heap[w.heap.size + 1 + 1 + 1]? = some (.cells #[.bool false] 4 (0, 0))) := ⟨by rw [hWA]; exact six_get _ _ _ _ _ _ _ 3 (by decide)⟩
      have HB4 : Aside0 (WA.heap[w.heap.size + 1 + 1 + 1 + 1]? = some (.cells #[.int .i64 0] 3 (0, 0))) := ⟨by rw [hWA]; exact six_get _ _ _ _ _ _ _ 4 (by decide)⟩
      have HB5 : Aside0 (WA.heap[w.heap.size + 1 + 1 + 1 + 1 + 1]? = some (.cells #[.int .i64 0] 29 (0, 0))) := ⟨by rw [hWA]; exact six_get _ _ _ _ _ _ _ 5 (by decide)⟩
      clear hWA
      obtain ⟨b1, hb1⟩ : ∃ b1, b1 = w.heap.size + 1 := ⟨_, rfl⟩
      obtain ⟨b2, hb2⟩ : ∃ b2, b2 = w.heap.size + 1 + 1 := ⟨_, rfl⟩
      obtain ⟨b3, hb3⟩ : ∃ b3, b3 = w.heap.size + 1 + 1 + 1 := ⟨_, rfl⟩
      obtain ⟨b4, hb4⟩ : ∃ b4, b4 = w.heap.size + 1 + 1 + 1 + 1 := ⟨_, rfl⟩
      obtain ⟨b5, hb5⟩ : ∃ b5, b5 = w.heap.size + 1 + 1 + 1 + 1 + 1 := ⟨_, rfl⟩
      have HN : Aside0 (w.heap.size < WA.heap.size ∧ b1 < WA.heap.size ∧ b2 < WA.heap.size ∧ b3 < WA.heap.size ∧ b4 < WA.heap.size ∧ b5 < WA.heap.size ∧ w.heap.size < b1 ∧ b1 < b2 ∧ b2 < b3 ∧ b3 < b4 ∧ b4 < b5) := ⟨by rw [HSA.out]; omega⟩
      rw [← hb5, ← hb4, ← hb3, ← hb2, ← hb1]
      rw [← hb5] at HB5
      rw [← hb4] at HB4
      rw [← hb3] at HB3
      rw [← hb2] at HB2
      rw [← hb1] at HB1
      clear hb1 hb2 hb3 hb4 hb5
      refine ⟨trivial, (callsIn_wide.2 (check_any v _ _ cs _ (Kd.C_below HR.out HWA.out) HC.out)).mono ?_⟩
      rintro e w1 ⟨rfl, hw1⟩
      rw [HCE.out]
      have HW1 := Aside0.mk hw1
      have g1 : w1.heap[b1]? = _ := (hw1.block b1 HN.out.2.1).trans HB1.out
      have k1 : w1.cell? ⟨b1, 0, none⟩ = some (.slice A1 ls.length c1) := by simp [World.cell?, g1]
      clear hw1 g1
      gi_wp2_with (refine ⟨trivial, (callsIn_wide.2 (pcheck_any A1 c1 ls _ (Kd.C_below HR1.out ?s1) HC1.out)).mono ?_⟩; (case s1 => exact HWA.out.trans (HW1.out.mono HWA.out.size)); rintro e w2 ⟨rfl, hw2⟩; rw [HCP.out]; have HW2 : Aside0 (Below WA.heap.size WA w2) := ⟨HW1.out.trans (hw2.mono HW1.out.size)⟩; have g0 : w2.heap[w.heap.size]? = _ := (HW2.out.block _ (by rw [HSA.out]; omega)).trans HB0.out; have k0 : w2.cell? ⟨w.heap.size, 0, none⟩ = some (.int .i64 v) := (by simp [World.cell?, g0]); have k01 : w2.cell? ⟨w.heap.size, 1, none⟩ = some (.slice A cs.length c) := (by simp [World.cell?, g0]); have g2 : w2.heap[b2]? = _ := (HW2.out.block _ HN.out.2.2.1).trans HB2.out; have k2 : w2.cell? ⟨b2, 0, none⟩ = some (.pointer none) := (by simp [World.cell?, g2]); have f2 : w2.frozen? ⟨b2, 0, none⟩ = false := (by simp [World.frozen?, g2]); clear hw2 g0 g2)
      have HLEN : Aside0 (cs.length ≤ 524288) := ⟨by have := (checkE_ok (v := v) (cs := cs) (by rw [HCE.out]; exact HZ.out)).2.2.1; omega⟩
      refine wpIn_mono (Q := NoPanic _) ?_ NoPanic.imp
      gi_region_with (first | (refine ⟨trivial, (callsIn_wide.2 (cloneL_any w A c cs _ HR.out ?s1 ?s2)).mono ?_⟩; (case s1 => exact HWA.out.trans (below_drew (HW2.out.mono HWA.out.size))); (case s2 => have := HLEN.out; omega); rintro e w3 ⟨vc, rfl, hRc, hBc⟩; obtain ⟨Ac, cc, rfl⟩ := Kd.R_slice hRc; have HRC := Aside0.mk hRc; have HBC : Aside0 (Below w2.heap.size w2 w3) := ⟨⟨hBc.os, hBc.tape, hBc.output, hBc.size, hBc.block⟩⟩; have j0 : w3.cell? ⟨w.heap.size, 0, none⟩ = some (.int .i64 v) := (HBC.out.cell (p := ⟨w.heap.size, 0, none⟩) (World.block_lt_of_cell? _ _ k0)).trans k0; have j01 : w3.cell? ⟨w.heap.size, 1, none⟩ = some (.slice A cs.length c) := (HBC.out.cell (p := ⟨w.heap.size, 1, none⟩) (World.block_lt_of_cell? _ _ k01)).trans k01; have j2 : ∀ o, (w3.alloc o).cell? ⟨b2, 0, none⟩ = some (.pointer none) := (fun o => ((HBC.out.alloc HBC.out.size o).cell (p := ⟨b2, 0, none⟩) (World.block_lt_of_cell? _ _ k2)).trans k2); have jf2 : ∀ o, (w3.alloc o).frozen? ⟨b2, 0, none⟩ = false := (fun o => ((HBC.out.alloc HBC.out.size o).frozen (p := ⟨b2, 0, none⟩) (World.block_lt_of_cell? _ _ k2)).trans f2); clear hRc hBc))
      all_goals refine NoPanic.normal ?_
      all_goals (obtain ⟨W4, hW4⟩ : ∃ W4, W4 = World.setCell (w3.alloc (.cells #[.int .i64 v, .slice Ac cs.length cc] 49)) ⟨b2, 0, none⟩ (.pointer (some ⟨w3.heap.size, 0, none⟩)) := ⟨_, rfl⟩)
      all_goals rw [← hW4]
      all_goals (
        have HWW4 : Aside0 (Below w.heap.size w W4) := ⟨by rw [hW4]; exact ((HWA.out.trans (HW2.out.mono HWA.out.size)).trans (HBC.out.mono (by have h1 := HWA.out.size; have h2 := HW2.out.size; omega)) |>.alloc (by have h1 := HWA.out.size; have h2 := HW2.out.size; have h3 := HBC.out.size; omega) _).setCell (by show w.heap.size ≤ b2; have := HN.out; omega) _⟩
        have HA4 : Aside0 (∀ k, k < WA.heap.size → k ≠ b2 → W4.heap[k]? = WA.heap[k]?) := ⟨fun k hk hne => by rw [hW4]; exact (Below.heap_setCell _ _ _ _ hne).trans (((HW2.out.trans (HBC.out.mono HW2.out.size)).alloc (by have h2 := HW2.out.size; have h3 := HBC.out.size; omega) _).block k hk)⟩
        have HC4 : Aside0 (Cells4 W4 b2 b3 b4 b5 (.pointer (some ⟨w3.heap.size, 0, none⟩)) (.bool false) (.int .i64 0) (.int .i64 0)) := ⟨by
          refine ⟨?_, (HA4.out _ (by have := HN.out; omega) (by have := HN.out; omega)).trans HB3.out, (HA4.out _ (by have := HN.out; omega) (by have := HN.out; omega)).trans HB4.out, (HA4.out _ (by have := HN.out; omega) (by have := HN.out; omega)).trans HB5.out⟩
          rw [hW4]
          have h1 : (w3.alloc (.cells #[.int .i64 v, .slice Ac cs.length cc] 49)).heap[b2]? = some (.cells #[.pointer none] 47 (0, 0)) := (((HW2.out.trans (HBC.out.mono HW2.out.size)).alloc (by have h2 := HW2.out.size; have h3 := HBC.out.size; omega) _).block b2 HN.out.2.2.1).trans HB2.out
          simpa using blk_set h1 0 (.pointer (some ⟨w3.heap.size, 0, none⟩))⟩
        have HSO : Aside0 (SO w WA.heap.size W4 w3.heap.size v cs) := ⟨by
          have h1 : (w3.alloc (.cells #[.int .i64 v, .slice Ac cs.length cc] 49)).heap[b2]? = some (.cells #[.pointer none] 47 (0, 0)) := (((HW2.out.trans (HBC.out.mono HW2.out.size)).alloc (by have h2 := HW2.out.size; have h3 := HBC.out.size; omega) _).block b2 HN.out.2.2.1).trans HB2.out
          refine ⟨by have h2 := HW2.out.size; have h3 := HBC.out.size; omega, .slice Ac cs.length cc, ?_, ?_⟩
          · rw [hW4]
            exact blk_far (heap_pair w3 _ _ _) (by show w3.heap.size ≠ b2; have := HN.out; have h2 := HW2.out.size; have h3 := HBC.out.size; omega) _
          · rw [hW4]
            refine Kd.R_set (Kd.R_below (Kd.R_lower HRC.out ?_) (below_alloc (Below.refl _ _) _)) h1 (fun q hq => ?_) 0 _
            · exact HW2.out.size
            · have h2 : q = 26 ∨ q = 3 := by simpa [mixK, Kd.mix, Kd.or_, Kd.fixed, Kd.slice, Kd.int, Kd.scalar] using hq
              omega⟩
        have HL4 : Aside0 (W4.heap[b1]? = some (.cells #[.slice A1 ls.length c1] 37 (0, 0))) := ⟨(HA4.out _ (by have := HN.out; omega) (by have := HN.out; omega)).trans HB1.out⟩
        have HS4 : Aside0 (WA.heap.size ≤ W4.heap.size) := ⟨by rw [hW4]; have h2 := HW2.out.size; have h3 := HBC.out.size; simp; omega⟩
        have hk2 : W4.cell? ⟨b2, 0, none⟩ = some (.pointer (some ⟨w3.heap.size, 0, none⟩)) := by simp [World.cell?, HC4.out.h2]
        have hk1 : W4.cell? ⟨b1, 0, none⟩ = some (.slice A1 ls.length c1) := by simp [World.cell?, HL4.out]
        obtain ⟨g, hg⟩ : ∃ g, g = w3.heap.size := ⟨_, rfl⟩
        rw [← hg] at HC4 HSO hk2 ⊢
        clear hW4 HA4 HRC HBC HW2 HW1 HB0 HB1 HB2 HB3 HB4 HB5 k0 k01 k1 k2 f2 j0 j01 j2 jf2 hg
        gi_wp2_with (refine ⟨trivial, (callsIn_wide.2 (steps_any _ _ _ _ _)).mono ?_⟩; rintro e w5 ⟨rfl, rfl⟩)
        have HW5 : Aside0 (Below W4.heap.size W4 ((W4.alloc (.cells #[.pointer (some ⟨g, 0, none⟩)] 47)).alloc (.cells #[.slice A1 ls.length c1] 37))) := ⟨below_alloc (below_alloc (Below.refl _ _) _) _⟩
        have HP5 : Aside0 (((W4.alloc (.cells #[.pointer (some ⟨g, 0, none⟩)] 47)).alloc (.cells #[.slice A1 ls.length c1] 37)).heap[W4.heap.size]? = some (.cells #[.pointer (some ⟨g, 0, none⟩)] 47 (0, 0)) ∧ ((W4.alloc (.cells #[.pointer (some ⟨g, 0, none⟩)] 47)).alloc (.cells #[.slice A1 ls.length c1] 37)).heap[W4.heap.size + 1]? = some (.cells #[.slice A1 ls.length c1] 37 (0, 0))) := ⟨by
          constructor
          · show ((W4.heap.push _).push _)[W4.heap.size]? = _
            rw [Array.getElem?_push, if_neg (by simp), Array.getElem?_push, if_pos rfl]
          · show ((W4.heap.push _).push _)[W4.heap.size + 1]? = _
            rw [Array.getElem?_push, if_pos (by simp)]⟩
        obtain ⟨W5, hW5⟩ : ∃ W5, W5 = ((W4.alloc (.cells #[.pointer (some ⟨g, 0, none⟩)] 47)).alloc (.cells #[.slice A1 ls.length c1] 37)) := ⟨_, rfl⟩
        rw [← hW5] at HW5 HP5 ⊢
        clear hW5 hk1 hk2
        have HWW5 : Aside0 (Below w.heap.size w W5) := ⟨HWW4.out.trans (HW5.out.mono HWW4.out.size)⟩
        have HC5 := Aside0.mk (HC4.out.low HW5.out (Array.getElem?_eq_some_iff.1 HC4.out.h2).1 (Array.getElem?_eq_some_iff.1 HC4.out.h3).1 (Array.getElem?_eq_some_iff.1 HC4.out.h4).1 (Array.getElem?_eq_some_iff.1 HC4.out.h5).1)
        have HL5 : Aside0 (W5.heap[b1]? = some (.cells #[.slice A1 ls.length c1] 37 (0, 0))) := ⟨(HW5.out.block _ (Array.getElem?_eq_some_iff.1 HL4.out).1).trans HL4.out⟩
        have HSO5 := Aside0.mk (HSO.out.below HW5.out)
        have HS5 : Aside0 (WA.heap.size ≤ W5.heap.size) := ⟨Nat.le_trans HS4.out HW5.out.size⟩
        clear HW5 HWW4 HC4 HL4 HSO HS4
        refine range_law (encs := fun x : Int × Int => #[.int .i64 x.1, .int .i64 x.2]) WA.heap.size HS5.out rfl (by decide) rfl trivial (enters_of Try.func56 (by kernel_rfl) rfl)
          (S := fun xs => xs = pairs er ls.length) (Sp := fun pre => ∃ k, k < ls.length ∧ pre = pairs er (k + 1))
          (fun pre x => ∃ k, k < ls.length ∧ pre = pairs er k ∧ x = ((k : Int), er k)) (fun pre => ∀ k, k ≤ ls.length → pre = pairs er k → Fine er ls k)
          ?_ (fun _ => rfl)
          (fun pre W => (Cells4 W b2 b3 b4 b5 (.pointer (some ⟨g, 0, none⟩)) (.bool false) (.int .i64 0) (.int .i64 0) ∧ W.heap[b1]? = some (.cells #[.slice A1 ls.length c1] 37 (0, 0)) ∧ Below w.heap.size w W) ∧ ∀ k, k ≤ ls.length → pre = pairs er k → Fine er ls k)
          (fun c pre W => c = .ret ∧ Cells4 W b2 b3 b4 b5 (.pointer (some ⟨g, 0, none⟩)) (.bool (resFrom er ls ls.length 0).1) (.int .i64 (resFrom er ls ls.length 0).2.1) (.int .i64 (resFrom er ls ls.length 0).2.2) ∧ Below w.heap.size w W)
          ?_ ?_ (fun _ _ h => h.2) ⟨⟨HC5.out, HL5.out, HWW5.out⟩, fun k _ he i hi => by
            have h0 : k = 0 := by
              have := congrArg List.length he
              rw [pairs_length] at this
              exact this.symm
            omega⟩ ?_ ?_ ?_ ?_ ?_
        · intro l J Jx W hW hKC hJ hJx hJG hY h0
          have hb := HWA.out.size
          have hG0 : W5.heap.size ≤ W.heap.size := hW.size
          exact (steps1_in 2 l W4.heap.size (W4.heap.size + 1) g WA.heap.size w A1 c1 ls st er HR1.out HWA.out.size 47 (by decide) (by decide) J Jx hJ hJx
            (fun k hk W hj => hJG _ W hj k hk rfl)
            (fun k hk hf => HDO.out HZ.out HZ1.out WA.heap.size g HWA.out.size k hk hf)
            (fun k W1 hk hj => by rw [pairs_succ]; exact hY (pairs er k) ((k : Int), er k) W1 hj ⟨k, hk, rfl, rfl⟩)
            W (HWW5.out.trans (hW.mono HWW5.out.size)) (Nat.le_trans HS5.out hG0)
            (by have h1 := (hW.block _ (Array.getElem?_eq_some_iff.1 HP5.out.2).1).trans HP5.out.2; simp only [World.cell?, h1]; rfl)
            ((hW.block _ (Array.getElem?_eq_some_iff.1 HP5.out.1).1).trans HP5.out.1)
            (by rw [HST.out]; exact HSO5.out.below hW) h0).mono (fun e W' h => h)
        · rintro s W W' ⟨⟨h1, h2, h3⟩, h4⟩ hb
          have hN := HN.out
          exact ⟨⟨h1.low hb hN.2.2.1 hN.2.2.2.1 hN.2.2.2.2.1 hN.2.2.2.2.2.1, (hb.block _ hN.2.1).trans h2, h3.trans (hb.mono HWA.out.size)⟩, h4⟩
        · rintro cc s W W' ⟨h0, h1, h3⟩ hb
          have hN := HN.out
          exact ⟨h0, h1.low hb hN.2.2.1 hN.2.2.2.1 hN.2.2.2.2.1 hN.2.2.2.2.2.1, h3.trans (hb.mono HWA.out.size)⟩
        rotate_left
        · intro l x W K hK
          gi_wp2
          exact hK
        · rintro l pre x W ⟨⟨h4, hl1, hbW⟩, hfine⟩ ⟨k, hk, rfl, rfl⟩
          have HF := Aside0.mk (hfine k (Nat.le_of_lt hk) rfl)
          have HFS : Aside0 (er k = 0 → isEnd (rd_T39 ls (k : Int)) = false → ∀ j, j ≤ ls.length → pairs er k ++ [((k : Int), er k)] = pairs er j → Fine er ls j) := ⟨fun h0 h1 j _ he i hi => by
            rw [← pairs_succ] at he
            obtain rfl := pairs_inj he
            rcases Nat.lt_or_ge i k with h2 | h2
            · exact HF.out i h2
            · obtain rfl : i = k := by omega
              exact ⟨h0, h1⟩⟩
          have H4 := Aside0.mk h4
          have HL := Aside0.mk hl1
          have HBW := Aside0.mk hbW
          have hc2 : W.cell? ⟨b2, 0, none⟩ = some (.pointer (some ⟨g, 0, none⟩)) := by simp [World.cell?, h4.h2]
          have hf2 : W.frozen? ⟨b2, 0, none⟩ = false := by simp [World.frozen?, h4.h2]
          have hc3 : W.cell? ⟨b3, 0, none⟩ = some (.bool false) := by simp [World.cell?, h4.h3]
          have hf3 : W.frozen? ⟨b3, 0, none⟩ = false := by simp [World.frozen?, h4.h3]
          have hc4 : W.cell? ⟨b4, 0, none⟩ = some (.int .i64 0) := by simp [World.cell?, h4.h4]
          have hf4 : W.frozen? ⟨b4, 0, none⟩ = false := by simp [World.frozen?, h4.h4]
          have hc5 : W.cell? ⟨b5, 0, none⟩ = some (.int .i64 0) := by simp [World.cell?, h4.h5]
          have hf5 : W.frozen? ⟨b5, 0, none⟩ = false := by simp [World.frozen?, h4.h5]
          have hcl : W.cell? ⟨b1, 0, none⟩ = some (.slice A1 ls.length c1) := by simp [World.cell?, hl1]
          have n23 : b2 ≠ b3 := by have := HN.out; omega
          have n24 : b2 ≠ b4 := by have := HN.out; omega
          have n25 : b2 ≠ b5 := by have := HN.out; omega
          have n34 : b3 ≠ b4 := by have := HN.out; omega
          have n35 : b3 ≠ b5 := by have := HN.out; omega
          have n45 : b4 ≠ b5 := by have := HN.out; omega
          clear h4 hl1 hbW hfine
          by_cases he : er k = 0
          · have d2 : (er k != 0) = false := bne_eq_false_iff_eq.2 he
            obtain ⟨ad, A5, c5, e5, hx0, hx1, _, _⟩ := at_T39 HR1.out (k : Int) (by omega) (by omega)
            cases e5
            have hx0 : W.cell? (ad.add (k * 2)) = some (.bool (rd_T39 ls (k : Int)).f0) := pw_cell_below HBW.out hx0
            have hx1 : W.cell? ⟨(ad.add (k * 2)).block, (ad.add (k * 2)).off + 1, none⟩ = some (.slice A5 (rd_T39 ls (k : Int)).f1.length c5) := pw_cell_below HBW.out hx1
            have q0 : (0 ≤ (k : Int)) = True := eq_true (by omega)
            have q1 : ((k : Int) < (ls.length : Int)) = True := eq_true (by omega)
            have HRE : Aside0 (isEnd (rd_T39 ls (k : Int)) = true → resFrom er ls ls.length 0 = (true, (k : Int), 0)) := ⟨fun h => res_end hk HF.out he h⟩
            have HHE := Aside0.mk he
            clear he
            generalize rd_T39 ls (k : Int) = x at *
            obtain ⟨x0, xc⟩ := x
            dsimp only at *
            cases x0 with
            | true =>
              have hnd : isEnd ⟨true, xc⟩ = false := rfl
              gi_wp2_with (refine wpListIn_skip (by rfl) ?_ ?_; (first | exact about_builtin _ _ _ _ _ _ _ rfl | rfl))
              exact ⟨KeepsOthers.refl _, KC.refl _, Below.refl _ _, ⟨H4.out, HL.out, HBW.out⟩, HFS.out HHE.out hnd⟩
            | false =>
              by_cases hl0 : (xc.length : Int) = 0
              · have d3 : ((xc.length : Int) == 0) = true := beq_iff_eq.2 hl0
                have hnd : isEnd ⟨false, xc⟩ = true := by simpa [isEnd] using hl0
                clear hl0
                gi_wp2
                refine ⟨four_ko _ _ _ _ _ _ _ _ _, rfl, ?_, four_below HBW.out (by have := HN.out; omega) (by have := HN.out; omega) (by have := HN.out; omega) (by have := HN.out; omega) _ _ _ _⟩
                rw [HRE.out hnd]
                exact H4.out.four (by have := HN.out; omega) (by have := HN.out; omega) (by have := HN.out; omega) _ _ _ _
              · have d3 : ((xc.length : Int) == 0) = false := beq_eq_false_iff_ne.2 hl0
                have hnd : isEnd ⟨false, xc⟩ = false := by simpa [isEnd] using hl0
                clear hl0
                gi_wp2
                exact ⟨KeepsOthers.refl _, KC.refl _, Below.refl _ _, ⟨H4.out, HL.out, HBW.out⟩, HFS.out HHE.out hnd⟩
          · have d2 : (er k != 0) = true := bne_iff_ne.2 he
            have HRE : Aside0 (resFrom er ls ls.length 0 = (false, (k : Int), er k)) := ⟨res_err hk HF.out he⟩
            clear he
            gi_wp2
            refine ⟨four_ko _ _ _ _ _ _ _ _ _, rfl, ?_, four_below HBW.out (by have := HN.out; omega) (by have := HN.out; omega) (by have := HN.out; omega) (by have := HN.out; omega) _ _ _ _⟩
            rw [HRE.out]
            exact H4.out.four (by have := HN.out; omega) (by have := HN.out; omega) (by have := HN.out; omega) _ _ _ _
        · rintro D xs W hD rfl ⟨⟨h4, hl1, hbW⟩, hfine⟩ hK
          have HF := Aside0.mk (hfine _ (Nat.le_refl _) rfl)
          have HBW := Aside0.mk hbW
          have H4 := Aside0.mk h4
          have HD := Aside0.mk hD
          have hc2 : W.cell? ⟨b2, 0, none⟩ = some (.pointer (some ⟨g, 0, none⟩)) := by simp [World.cell?, h4.h2]
          have hf2 : W.frozen? ⟨b2, 0, none⟩ = false := by simp [World.frozen?, h4.h2]
          have hc3 : W.cell? ⟨b3, 0, none⟩ = some (.bool false) := by simp [World.cell?, h4.h3]
          have hf3 : W.frozen? ⟨b3, 0, none⟩ = false := by simp [World.frozen?, h4.h3]
          have hc4 : W.cell? ⟨b4, 0, none⟩ = some (.int .i64 0) := by simp [World.cell?, h4.h4]
          have hf4 : W.frozen? ⟨b4, 0, none⟩ = false := by simp [World.frozen?, h4.h4]
          have hc5 : W.cell? ⟨b5, 0, none⟩ = some (.int .i64 0) := by simp [World.cell?, h4.h5]
          have hf5 : W.frozen? ⟨b5, 0, none⟩ = false := by simp [World.frozen?, h4.h5]
          have n23 : b2 ≠ b3 := by have := HN.out; omega
          have n24 : b2 ≠ b4 := by have := HN.out; omega
          have n25 : b2 ≠ b5 := by have := HN.out; omega
          have n34 : b3 ≠ b4 := by have := HN.out; omega
          have n35 : b3 ≠ b5 := by have := HN.out; omega
          have n45 : b4 ≠ b5 := by have := HN.out; omega
          have HKD := Aside0.mk hK
          clear h4 hl1 hbW hfine hK hD
          gi_wp2
          have HF4 := Aside0.mk (H4.out.four (by have := HN.out; omega) (by have := HN.out; omega) (by have := HN.out; omega) (.pointer (some ⟨g, 0, none⟩)) (.bool false) (.int .i64 0) (.int .i64 0))
          have HFB : Aside0 (Below w.heap.size w (four W b2 b3 b4 b5 (.pointer (some ⟨g, 0, none⟩)) (.bool false) (.int .i64 0) (.int .i64 0))) := ⟨four_below HBW.out (by have := HN.out; omega) (by have := HN.out; omega) (by have := HN.out; omega) (by have := HN.out; omega) _ _ _ _⟩
          have hKD := (four_ko W b2 b3 b4 b5 (.pointer (some ⟨g, 0, none⟩)) (.bool false) (.int .i64 0) (.int .i64 0)).same D _ HKD.out rfl
          have HWE : Aside0 (walkE v cs ls er = (false, 0, 0)) := ⟨by unfold walkE; rw [HCE.out, HZ.out, HCP.out, HZ1.out, if_neg (by simp), if_neg (by simp)]; exact res_all HF.out⟩
          refine ⟨by simp, .inl ⟨_, _, rfl, run_takeDeferred hKD, ?_⟩⟩
          have hfin := finish4 HF4.out hKD (.deferred none)
          have e3 := hfin.1
          have e4 := hfin.2.1
          have e5 := hfin.2.2.1
          have e6 := hfin.2.2.2
          unfold H14.four at e3 e4 e5 e6
          refine ⟨.tuple #[.pointer (some ⟨g, 0, none⟩), .bool false, .int .i64 0, .int .i64 0], ?_, ⟨_, by rw [HWE.out]⟩, below_putObj HFB.out (Nat.le_trans (Nat.le_trans HWA.out.size HS5.out) HD.out) _⟩
          simp [results, Try.f27, go_sem, e3, e4, e5, e6]
        · rintro D cc pre W hD ⟨k, hk, rfl⟩ ⟨rfl, h4, hbW⟩ hK
          have HBW := Aside0.mk hbW
          have H4 := Aside0.mk h4
          have HD := Aside0.mk hD
          have HKD := Aside0.mk hK
          clear h4 hbW hK hD
          gi_wp2
          have HWE : Aside0 (walkE v cs ls er = resFrom er ls ls.length 0) := ⟨by unfold walkE; rw [HCE.out, HZ.out, HCP.out, HZ1.out, if_neg (by simp), if_neg (by simp)]⟩
          refine ⟨by simp, .inl ⟨_, _, rfl, run_takeDeferred HKD.out, ?_⟩⟩
          have hfin := finish4 H4.out HKD.out (.deferred none)
          have e3 := hfin.1
          have e4 := hfin.2.1
          have e5 := hfin.2.2.1
          have e6 := hfin.2.2.2
          refine ⟨.tuple #[.pointer (some ⟨g, 0, none⟩), .bool (resFrom er ls ls.length 0).1, .int .i64 (resFrom er ls ls.length 0).2.1, .int .i64 (resFrom er ls ls.length 0).2.2], ?_, ⟨_, by rw [HWE.out]⟩, below_putObj HBW.out (Nat.le_trans (Nat.le_trans HWA.out.size HS5.out) HD.out) _⟩
          simp [results, Try.f27, go_sem, e3, e4, e5, e6])
    · have d1 : (checkP ls != 0) = true := bne_iff_ne.2 h1
      have HWE : Aside0 (walkE v cs ls er = (false, 0, checkP ls)) := ⟨by unfold walkE; rw [HCE.out, HZ.out, if_neg (by simp), if_pos h1]⟩
      clear h1 HDO HST
      generalize hcp : checkP ls = cp at *
      have HCP := Aside0.mk hcp
      clear hcp
      go_enter Try.func27, Try.ntmps27
      go_wp2_with fail
      rw [six_eq]
      obtain ⟨WA, hWA⟩ : ∃ WA, WA = six w (.cells #[.int .i64 v, .slice A cs.length c] 24) (.cells #[.slice A1 ls.length c1] 37) (.cells #[.pointer none] 47) (.cells #[.bool false] 4) (.cells #[.int .i64 0] 3) (.cells #[.int .i64 0] 29) := ⟨_, rfl⟩
      rw [← hWA]
      have HSA : Aside0 (WA.heap.size = w.heap.size + 6) := ⟨by rw [hWA]; exact six_size _ _ _ _ _ _ _⟩
      have HWA : Aside0 (Below w.heap.size w WA) := ⟨by rw [hWA]; exact six_below _ _ _ _ _ _ _⟩
      have HB1 : Aside0 (WA.heap[w.heap.size + 1]? = some (.cells #[.slice A1 ls.length c1] 37 (0, 0))) := ⟨by rw [hWA]; exact six_get _ _ _ _ _ _ _ 1 (by decide)⟩
      have HC4 : Aside0 (Cells4 WA (w.heap.size + 1 + 1) (w.heap.size + 1 + 1 + 1) (w.heap.size + 1 + 1 + 1 + 1) (w.heap.size + 1 + 1 + 1 + 1 + 1) (.pointer none) (.bool false) (.int .i64 0) (.int .i64 0)) := ⟨by
        rw [hWA]
        exact ⟨six_get _ _ _ _ _ _ _ 2 (by decide), six_get _ _ _ _ _ _ _ 3 (by decide), six_get _ _ _ _ _ _ _ 4 (by decide), six_get _ _ _ _ _ _ _ 5 (by decide)⟩⟩
      clear hWA
      obtain ⟨b1, hb1⟩ : ∃ b1, b1 = w.heap.size + 1 := ⟨_, rfl⟩
      obtain ⟨b2, hb2⟩ : ∃ b2, b2 = w.heap.size + 1 + 1 := ⟨_, rfl⟩
      obtain ⟨b3, hb3⟩ : ∃ b3, b3 = w.heap.size + 1 + 1 + 1 := ⟨_, rfl⟩
      obtain ⟨b4, hb4⟩ : ∃ b4, b4 = w.heap.size + 1 + 1 + 1 + 1 := ⟨_, rfl⟩
      obtain ⟨b5, hb5⟩ : ∃ b5, b5 = w.heap.size + 1 + 1 + 1 + 1 + 1 := ⟨_, rfl⟩
      have HN : Aside0 (w.heap.size < WA.heap.size ∧ b1 < WA.heap.size ∧ b2 < WA.heap.size ∧ b3 < WA.heap.size ∧ b4 < WA.heap.size ∧ b5 < WA.heap.size ∧ w.heap.size < b1 ∧ b1 < b2 ∧ b2 < b3 ∧ b3 < b4 ∧ b4 < b5) := ⟨by rw [HSA.out]; omega⟩
      rw [← hb5, ← hb4, ← hb3, ← hb2] at HC4
      rw [← hb1] at HB1
      rw [← hb5, ← hb4, ← hb3, ← hb2, ← hb1]
      clear hb1 hb2 hb3 hb4 hb5
      have n23 : b2 ≠ b3 := by have := HN.out; omega
      have n24 : b2 ≠ b4 := by have := HN.out; omega
      have n25 : b2 ≠ b5 := by have := HN.out; omega
      have n34 : b3 ≠ b4 := by have := HN.out; omega
      have n35 : b3 ≠ b5 := by have := HN.out; omega
      have n45 : b4 ≠ b5 := by have := HN.out; omega
      refine (check_any v _ _ cs _ (Kd.C_below HR.out HWA.out) HC.out).mono ?_
      rintro e w1 ⟨rfl, hw1⟩
      rw [HCE.out]
      have HW1 := Aside0.mk hw1
      have g1 : w1.heap[b1]? = _ := (hw1.block b1 HN.out.2.1).trans HB1.out
      have k1 : w1.cell? ⟨b1, 0, none⟩ = some (.slice A1 ls.length c1) := by simp [World.cell?, g1]
      clear hw1 g1
      go_wp2_with ((with_reducible refine (pcheck_any A1 c1 ls _ (Kd.C_below HR1.out ?s1) HC1.out).mono ?_); (case s1 => exact HWA.out.trans (HW1.out.mono HWA.out.size)); rintro e w2 ⟨rfl, hw2⟩; rw [HCP.out]; have HWX : Aside0 (Below WA.heap.size WA w2) := ⟨HW1.out.trans (hw2.mono HW1.out.size)⟩; clear hw2; have HC5 := Aside0.mk (HC4.out.low HWX.out HN.out.2.2.1 HN.out.2.2.2.1 HN.out.2.2.2.2.1 HN.out.2.2.2.2.2.1); have hc2 : w2.cell? ⟨b2, 0, none⟩ = some (.pointer none) := (by simp [World.cell?, HC5.out.h2]); have hf2 : w2.frozen? ⟨b2, 0, none⟩ = false := (by simp [World.frozen?, HC5.out.h2]); have hc3 : w2.cell? ⟨b3, 0, none⟩ = some (.bool false) := (by simp [World.cell?, HC5.out.h3]); have hf3 : w2.frozen? ⟨b3, 0, none⟩ = false := (by simp [World.frozen?, HC5.out.h3]); have hc4 : w2.cell? ⟨b4, 0, none⟩ = some (.int .i64 0) := (by simp [World.cell?, HC5.out.h4]); have hf4 : w2.frozen? ⟨b4, 0, none⟩ = false := (by simp [World.frozen?, HC5.out.h4]); have hc5 : w2.cell? ⟨b5, 0, none⟩ = some (.int .i64 0) := (by simp [World.cell?, HC5.out.h5]); have hf5 : w2.frozen? ⟨b5, 0, none⟩ = false := (by simp [World.frozen?, HC5.out.h5]))
      have HF4 := Aside0.mk (HC5.out.four (by have := HN.out; omega) (by have := HN.out; omega) (by have := HN.out; omega) (.pointer none) (.bool false) (.int .i64 0) (.int .i64 cp))
      have e3 := four_cells HF4.out
      unfold H14.four at e3
      refine bodyPost_ret (v := .tuple #[.pointer none, .bool false, .int .i64 0, .int .i64 cp]) ?_ rfl ?_
      · simp [results, Try.f27, go_sem, e3.1, e3.2.1, e3.2.2.1, e3.2.2.2]
      · exact ⟨⟨_, by rw [HWE.out]⟩, four_below (HWA.out.trans (HWX.out.mono HWA.out.size)) (by have := HN.out; omega) (by have := HN.out; omega) (by have := HN.out; omega) (by have := HN.out; omega) _ _ _ _⟩
  · have d0 : ((checkE v cs).2 != 0) = true := bne_iff_ne.2 h0
    have HWE : Aside0 (walkE v cs ls er = (false, 0, (checkE v cs).2)) := ⟨by unfold walkE; rw [if_pos h0]⟩
    clear h0 HDO HST
    generalize hce : checkE v cs = ce at *
    have HCE := Aside0.mk hce
    clear hce
    · go_enter Try.func27, Try.ntmps27
      go_wp2_with fail
      rw [six_eq]
      obtain ⟨WA, hWA⟩ : ∃ WA, WA = six w (.cells #[.int .i64 v, .slice A cs.length c] 24) (.cells #[.slice A1 ls.length c1] 37) (.cells #[.pointer none] 47) (.cells #[.bool false] 4) (.cells #[.int .i64 0] 3) (.cells #[.int .i64 0] 29) := ⟨_, rfl⟩
      rw [← hWA]
      have HSA : Aside0 (WA.heap.size = w.heap.size + 6) := ⟨by rw [hWA]; exact six_size _ _ _ _ _ _ _⟩
      have HWA : Aside0 (Below w.heap.size w WA) := ⟨by rw [hWA]; exact six_below _ _ _ _ _ _ _⟩
      have HB1 : Aside0 (WA.heap[w.heap.size + 1]? = some (.cells #[.slice A1 ls.length c1] 37 (0, 0))) := ⟨by rw [hWA]; exact six_get _ _ _ _ _ _ _ 1 (by decide)⟩
      have HC4 : Aside0 (Cells4 WA (w.heap.size + 1 + 1) (w.heap.size + 1 + 1 + 1) (w.heap.size + 1 + 1 + 1 + 1) (w.heap.size + 1 + 1 + 1 + 1 + 1) (.pointer none) (.bool false) (.int .i64 0) (.int .i64 0)) := ⟨by
        rw [hWA]
        exact ⟨six_get _ _ _ _ _ _ _ 2 (by decide), six_get _ _ _ _ _ _ _ 3 (by decide), six_get _ _ _ _ _ _ _ 4 (by decide), six_get _ _ _ _ _ _ _ 5 (by decide)⟩⟩
      clear hWA
      obtain ⟨b1, hb1⟩ : ∃ b1, b1 = w.heap.size + 1 := ⟨_, rfl⟩
      obtain ⟨b2, hb2⟩ : ∃ b2, b2 = w.heap.size + 1 + 1 := ⟨_, rfl⟩
      obtain ⟨b3, hb3⟩ : ∃ b3, b3 = w.heap.size + 1 + 1 + 1 := ⟨_, rfl⟩
      obtain ⟨b4, hb4⟩ : ∃ b4, b4 = w.heap.size + 1 + 1 + 1 + 1 := ⟨_, rfl⟩
      obtain ⟨b5, hb5⟩ : ∃ b5, b5 = w.heap.size + 1 + 1 + 1 + 1 + 1 := ⟨_, rfl⟩
      have HN : Aside0 (w.heap.size < WA.heap.size ∧ b1 < WA.heap.size ∧ b2 < WA.heap.size ∧ b3 < WA.heap.size ∧ b4 < WA.heap.size ∧ b5 < WA.heap.size ∧ w.heap.size < b1 ∧ b1 < b2 ∧ b2 < b3 ∧ b3 < b4 ∧ b4 < b5) := ⟨by rw [HSA.out]; omega⟩
      rw [← hb5, ← hb4, ← hb3, ← hb2] at HC4
      rw [← hb1] at HB1
      rw [← hb5, ← hb4, ← hb3, ← hb2, ← hb1]
      clear hb1 hb2 hb3 hb4 hb5
      have n23 : b2 ≠ b3 := by have := HN.out; omega
      have n24 : b2 ≠ b4 := by have := HN.out; omega
      have n25 : b2 ≠ b5 := by have := HN.out; omega
      have n34 : b3 ≠ b4 := by have := HN.out; omega
      have n35 : b3 ≠ b5 := by have := HN.out; omega
      have n45 : b4 ≠ b5 := by have := HN.out; omega
      refine (check_any v _ _ cs _ (Kd.C_below HR.out HWA.out) HC.out).mono ?_
      rintro e w1 ⟨rfl, hw1⟩
      rw [HCE.out]
      have HW1 := Aside0.mk hw1
      have HWX : Aside0 (Below WA.heap.size WA w1) := ⟨hw1⟩
      clear hw1
      have HC5 := Aside0.mk (HC4.out.low HWX.out HN.out.2.2.1 HN.out.2.2.2.1 HN.out.2.2.2.2.1 HN.out.2.2.2.2.2.1)
      have hc2 : w1.cell? ⟨b2, 0, none⟩ = some (.pointer none) := (by simp [World.cell?, HC5.out.h2])
      have hf2 : w1.frozen? ⟨b2, 0, none⟩ = false := (by simp [World.frozen?, HC5.out.h2])
      have hc3 : w1.cell? ⟨b3, 0, none⟩ = some (.bool false) := (by simp [World.cell?, HC5.out.h3])
      have hf3 : w1.frozen? ⟨b3, 0, none⟩ = false := (by simp [World.frozen?, HC5.out.h3])
      have hc4 : w1.cell? ⟨b4, 0, none⟩ = some (.int .i64 0) := (by simp [World.cell?, HC5.out.h4])
      have hf4 : w1.frozen? ⟨b4, 0, none⟩ = false := (by simp [World.frozen?, HC5.out.h4])
      have hc5 : w1.cell? ⟨b5, 0, none⟩ = some (.int .i64 0) := (by simp [World.cell?, HC5.out.h5])
      have hf5 : w1.frozen? ⟨b5, 0, none⟩ = false := (by simp [World.frozen?, HC5.out.h5])
      go_wp2
      have HF4 := Aside0.mk (HC5.out.four (by have := HN.out; omega) (by have := HN.out; omega) (by have := HN.out; omega) (.pointer none) (.bool false) (.int .i64 0) (.int .i64 ce.2))
      have e3 := four_cells HF4.out
      unfold H14.four at e3
      refine bodyPost_ret (v := .tuple #[.pointer none, .bool false, .int .i64 0, .int .i64 ce.2]) ?_ rfl ?_
      · simp [results, Try.f27, go_sem, e3.1, e3.2.1, e3.2.2.1, e3.2.2.2]
      · exact ⟨⟨_, by rw [HWE.out]⟩, four_below (HWA.out.trans (HWX.out.mono HWA.out.size)) (by have := HN.out; omega) (by have := HN.out; omega) (by have := HN.out; omega) (by have := HN.out; omega) _ _ _ _⟩

set_option maxHeartbeats 1000000 in
set_option maxRecDepth 100000 in
theorem pCheck_any (v : Int) (A : Option Addr) (c : Nat) (cs : List (List Int)) (A1 : Option Addr) (c1 : Nat) (ls : List S39) (st : Nat → Int × List (List Int)) (er : Nat → Int) (w : World)
    (hr : Kd.C (Kd.slice 3 (Kd.int .i64)) w A cs.length cs) (hc : cs.length ≤ c) (hr1 : Kd.C k39 w A1 ls.length ls) (hc1 : ls.length ≤ c1)
    (hst : st 0 = (v, cs))
    (hdo : (checkE v cs).2 = 0 → checkP ls = 0 → ∀ (w : World) (base g : Nat), w.heap.size ≤ base → ∀ k, k < ls.length → (∀ i, i < k → er i = 0 ∧ isEnd (rd_T39 ls (i : Int)) = false) → DoAt w base g (st k) (rd_T39 ls (k : Int)) (er k) (st (k + 1))) :
    Calls Try.prog 14 #[.agg #[.int .i64 v, .slice A cs.length c], .slice A1 ls.length c1] w fun e w' =>
      e = .returned (.tuple #[.bool (walkE v cs ls er).1, .int .i64 (walkE v cs ls er).2.1, .int .i64 (walkE v cs ls er).2.2]) ∧ Below w.heap.size w w' := by
  have HR := Aside0.mk hr
  have HC := Aside0.mk hc
  have HR1 := Aside0.mk hr1
  have HC1 := Aside0.mk hc1
  have HST := Aside0.mk hst
  have HDO := Aside0.mk hdo
  clear hr hc hr1 hc1 hst hdo
  go_enter Try.func14, Try.ntmps14
  go_wp2_with ((with_reducible refine (walk_any v A c cs A1 c1 ls st er _ (Kd.C_below HR.out ?s1) HC.out (Kd.C_below HR1.out ?s2) HC1.out HST.out ?s3).mono ?_); (case s1 => exact below_alloc (Below.refl _ _) _); (case s2 => exact below_alloc (Below.refl _ _) _); (case s3 => exact fun h1 h2 base g hb => HDO.out h1 h2 _ base g hb); rintro e w1 ⟨⟨p1, rfl⟩, hb1⟩; have HB1 := Aside0.mk hb1; clear hb1)
  go_ret3
  exact ⟨rfl, (below_alloc (Below.refl _ _) _).trans (HB1.out.mono (by simp))⟩
end Go.Proofs.Ytjfmoildblcjiaa.H14
