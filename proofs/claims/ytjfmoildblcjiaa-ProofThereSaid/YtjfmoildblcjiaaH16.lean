/- What is proved here: the contract of works of layer 18. -/
import Derived.Test.YtjfmoildblcjiaaH15
namespace Go.Proofs.Ytjfmoildblcjiaa.H16
open Go.RowKit Go.Proofs.YtjfmoildblcjiaaW.PrintWords Go.Proofs.YtjfmoildblcjiaaW.PrintLast Go.Proofs.YtjfmoildblcjiaaW.PrintMore Go.Proofs.Ytjfmoildblcjiaa.QK Go.Proofs.Ytjfmoildblcjiaa.Orc Go.Proofs.Ytjfmoildblcjiaa.H10 Go.Proofs.Ytjfmoildblcjiaa.H15

theorem C_lit {α : Type} {d : Kd α} {W : World} {b t : Nat} {cells : Array Value} {xs : List α} (hsz : d.sz = 1) (hb : W.heap[b]? = some (.cells cells t (0, 0))) (hlen : xs.length ≤ 1000)
    (h : ∀ (j : Nat) (p : α), xs[j]? = some p → ∃ u, cells[j]? = some u ∧ d.K W p [u]) : d.C W (some ⟨b, 0, none⟩) xs.length xs :=
  ⟨rfl, by omega, fun _ => ⟨_, rfl, fun j p hj => by
    obtain ⟨u, hu, hK⟩ := h j p hj
    refine ⟨[u], hsz.symm, hK, fun i v hv => ?_⟩
    cases i with
    | zero =>
      obtain rfl : u = v := by simpa using hv
      rw [hsz, Nat.mul_one, Nat.add_zero]
      rw [add_plain]
      simp [World.cell?, hb, hu]
    | succ i => simp at hv⟩⟩
theorem C_two {W : World} {b t : Nat} {x y : Int} (hb : W.heap[b]? = some (.cells #[.int .i64 x, .int .i64 y] t (0, 0))) : Kd.C (Kd.int .i64) W (some ⟨b, 0, none⟩) 2 [x, y] :=
  C_lit (d := Kd.int .i64) (xs := [x, y]) rfl hb (by simp) (fun j p hj => by
    match j, hj with
    | 0, hj => cases hj; exact ⟨_, rfl, rfl⟩
    | 1, hj => cases hj; exact ⟨_, rfl, rfl⟩)

/-- Blocks laid one behind the other. -/
def lay (w : World) : List Obj → World
  | [] => w
  | o :: r => lay (w.alloc o) r
theorem lay_heap : ∀ (l : List Obj) (w : World), (lay w l).heap.toList = w.heap.toList ++ l
  | [], w => by simp [lay]
  | o :: r, w => by
    rw [lay, lay_heap r (w.alloc o)]
    show (w.heap.push o).toList ++ r = _
    simp
theorem lay_get (l : List Obj) (w : World) (i : Nat) (hi : i < l.length) : (lay w l).heap[w.heap.size + i]? = l[i]? := by
  rw [← Array.getElem?_toList, lay_heap, List.getElem?_append_right (by simp)]
  simp
theorem lay_below : ∀ (l : List Obj) (w w0 : World), Below w0.heap.size w0 w → Below w0.heap.size w0 (lay w l)
  | [], _, _, h => h
  | o :: r, w, w0, h => lay_below r (w.alloc o) w0 (below_alloc h o)
/-- The example's blocks. -/
def exObjs (n : Nat) : List Obj := [.cells #[.int .i64 1, .int .i64 2] 3, .cells #[.int .i64 1, .int .i64 (-2)] 3, .cells #[.int .i64 (-1), .int .i64 2] 3, .cells #[.int .i64 (-1), .int .i64 (-2)] 3,
  .cells #[.slice (some ⟨n, 0, none⟩) 2 2, .slice (some ⟨n + 1, 0, none⟩) 2 2, .slice (some ⟨n + 1 + 1, 0, none⟩) 2 2, .slice (some ⟨n + 1 + 1 + 1, 0, none⟩) 2 2] 26,
  .cells #[.int .i64 2, .slice (some ⟨n + 1 + 1 + 1 + 1, 0, none⟩) 4 4] 24, .cells #[.bool false, .slice none 0 0] 39]
theorem ex_C {W : World} {n : Nat} (h : ∀ i, i < 7 → W.heap[n + i]? = (exObjs n)[i]?) : Kd.C (Kd.slice 3 (Kd.int .i64)) W (some ⟨n + 1 + 1 + 1 + 1, 0, none⟩) 4 ex4 :=
  C_lit (d := Kd.slice 3 (Kd.int .i64)) (xs := ex4) rfl (h 4 (by decide)) (by decide) (fun j p hj => by
    match j, hj with
    | 0, hj => cases hj; exact ⟨_, rfl, _, _, rfl, Nat.le_refl _, C_two (h 0 (by decide))⟩
    | 1, hj => cases hj; exact ⟨_, rfl, _, _, rfl, Nat.le_refl _, C_two (h 1 (by decide))⟩
    | 2, hj => cases hj; exact ⟨_, rfl, _, _, rfl, Nat.le_refl _, C_two (h 2 (by decide))⟩
    | 3, hj => cases hj; exact ⟨_, rfl, _, _, rfl, Nat.le_refl _, C_two (h 3 (by decide))⟩)
theorem C_nil0 {W : World} : Kd.C (Kd.int .i64) W none 0 [] := ⟨rfl, by decide, fun h => absurd h (by decide)⟩
theorem line_C1 {W : World} {b t : Nat} (hb : W.heap[b]? = some (.cells #[.bool false, .slice none 0 0] t (0, 0))) : Kd.C k39 W (some ⟨b, 0, none⟩) 1 [⟨false, []⟩] :=
  ⟨rfl, by decide, fun _ => ⟨_, rfl, fun j p hj => by
    match j, hj with
    | 0, hj =>
      cases hj
      refine ⟨[.bool false, .slice none 0 0], rfl, k39_mk W ⟨false, []⟩ (Nat.le_refl _) C_nil0, fun i u hu => ?_⟩
      match i, hu with
      | 0, hu => cases hu; rw [add_plain]; simp [World.cell?, hb]
      | 1, hu => cases hu; rw [add_plain]; simp [World.cell?, hb]⟩⟩
theorem line_C2 {W : World} {b t b1 : Nat} {t1 : Nat} (hb : W.heap[b]? = some (.cells #[.bool false, .slice (some ⟨b1, 0, none⟩) 1 1, .bool false, .slice none 0 0] t (0, 0))) (hb1 : W.heap[b1]? = some (.cells #[.int .i64 1] t1 (0, 0))) : Kd.C k39 W (some ⟨b, 0, none⟩) 2 [⟨false, [1]⟩, ⟨false, []⟩] :=
  ⟨rfl, by decide, fun _ => ⟨_, rfl, fun j p hj => by
    match j, hj with
    | 0, hj =>
      cases hj
      refine ⟨[.bool false, .slice (some ⟨b1, 0, none⟩) 1 1], rfl, k39_mk W ⟨false, [1]⟩ (Nat.le_refl _) (C_lit (d := Kd.int .i64) (xs := [1]) rfl hb1 (by decide) (fun j p hj => by
        match j, hj with
        | 0, hj => cases hj; exact ⟨_, rfl, rfl⟩)), fun i u hu => ?_⟩
      match i, hu with
      | 0, hu => cases hu; rw [add_plain]; simp [World.cell?, hb]
      | 1, hu => cases hu; rw [add_plain]; simp [World.cell?, hb]
    | 1, hj =>
      cases hj
      refine ⟨[.bool false, .slice none 0 0], rfl, k39_mk W ⟨false, []⟩ (Nat.le_refl _) C_nil0, fun i u hu => ?_⟩
      match i, hu with
      | 0, hu => cases hu; rw [add_plain]; simp [World.cell?, hb, k39, Kd.iso, Kd.pair, Kd.bool, Kd.scalar, Kd.slice]
      | 1, hu => cases hu; rw [add_plain]; simp [World.cell?, hb, k39, Kd.iso, Kd.pair, Kd.bool, Kd.scalar, Kd.slice]⟩⟩

set_option maxHeartbeats 4000000 in
set_option maxRecDepth 100000 in
theorem works_any (w : World) : Calls Try.prog 12 #[] w fun e w' => e = .returned (.bool true) ∧ Below w.heap.size w w' := by
  go_enter Try.func12, Try.ntmps12
  go_wp2_with fail
  obtain ⟨W7, hW7⟩ : ∃ W7, W7 = lay w (exObjs w.heap.size) := ⟨_, rfl⟩
  have HB7 : Aside0 (Below w.heap.size w W7) := ⟨by rw [hW7]; exact lay_below _ _ _ (Below.refl _ _)⟩
  have HG7 : Aside0 (∀ i, i < 7 → W7.heap[w.heap.size + i]? = (exObjs w.heap.size)[i]?) := ⟨fun i hi => by rw [hW7]; exact lay_get _ _ i hi⟩
  show Calls _ _ _ (lay w (exObjs w.heap.size)) _
  rw [← hW7]
  clear hW7
  refine (proof_Check.calls 2 _ _ ex4 _ _ [⟨false, []⟩] false 0 180 W7 (ex_C HG7.out) (Nat.le_refl _) (line_C1 (HG7.out 6 (by decide))) (Nat.le_refl _) check_a).mono ?_
  rintro e w1 ⟨rfl, hb1⟩
  have HB1 := Aside0.mk hb1
  have g5 : w1.heap[w.heap.size + 5]? = _ := (hb1.block _ (Array.getElem?_eq_some_iff.1 (HG7.out 5 (by decide))).1).trans (HG7.out 5 (by decide))
  have k0 : w1.cell? ⟨w.heap.size + 1 + 1 + 1 + 1 + 1, 0, none⟩ = some (.int .i64 2) := by
    show w1.cell? ⟨w.heap.size + 5, 0, none⟩ = _
    simp [World.cell?, g5, exObjs]
  have k1 : w1.cell? ⟨w.heap.size + 1 + 1 + 1 + 1 + 1, 1, none⟩ = some (.slice (some ⟨w.heap.size + 1 + 1 + 1 + 1, 0, none⟩) 4 4) := by
    show w1.cell? ⟨w.heap.size + 5, 1, none⟩ = _
    simp [World.cell?, g5, exObjs]
  clear g5 hb1
  go_wp2_with fail
  refine (proof_Check.calls 2 _ _ ex4 _ _ [⟨false, [1]⟩, ⟨false, []⟩] true 1 0 _ (Kd.C_below (ex_C HG7.out) (HB1.out.trans ((below_alloc (below_alloc (Below.refl _ _) _) _).mono HB1.out.size))) (Nat.le_refl _) (line_C2 (lay_get [.cells #[.int .i64 1] 3, .cells #[.bool false, .slice (some ⟨w1.heap.size, 0, none⟩) 1 1, .bool false, .slice none 0 0] 39] w1 1 (by simp)) (lay_get [.cells #[.int .i64 1] 3, .cells #[.bool false, .slice (some ⟨w1.heap.size, 0, none⟩) 1 1, .bool false, .slice none 0 0] 39] w1 0 (by simp))) (Nat.le_refl _) check_b).mono ?_
  rintro e w2 ⟨rfl, hb2⟩
  have HB2 := Aside0.mk hb2
  clear hb2
  go_wp2
  go_ret
  exact ⟨rfl, (HB7.out.trans (HB1.out.mono HB7.out.size)).trans ((below_alloc (below_alloc (Below.refl _ _) _) _).mono (by have h1 := HB7.out.size; have h2 := HB1.out.size; omega) |>.trans (HB2.out.mono (by have h1 := HB7.out.size; have h2 := HB1.out.size; simp; omega)))⟩
end Go.Proofs.Ytjfmoildblcjiaa.H16
